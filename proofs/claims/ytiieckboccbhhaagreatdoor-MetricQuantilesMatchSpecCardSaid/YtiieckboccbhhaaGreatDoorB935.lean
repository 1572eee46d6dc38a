/- IsShort, IsMiss, CheckTest, enough of the references. Printed by gen_rdec.py. What Ranks returns. Methods of the reference's fractions. Printed by gen_frac.py. FracOf of the reference. Printed by gen_frf.py. -/
import Derived.Test.YtiieckboccbhhaaGreatDoorB934
import Derived.Test.YtiieckboccbhhaaGreatDoorB930
import Derived.Test.YtiieckboccbhhaaGreatDoorProg
import Derived.Test.YtiieckboccbhhaaGreatDoorB900
import Derived.Test.YtiieckboccbhhaaGreatDoorB902
import Derived.Test.YtiieckboccbhhaaGreatDoorB903
import Derived.Test.YtiieckboccbhhaaGreatDoorB904
import Derived.Test.YtiieckboccbhhaaGreatDoorB905
import Derived.Test.YtiieckboccbhhaaGreatDoorB906
import Derived.Test.YtiieckboccbhhaaGreatDoorB907
import Derived.Test.YtiieckboccbhhaaGreatDoorB908
import Derived.Test.YtiieckboccbhhaaGreatDoorB909
import Derived.Test.YtiieckboccbhhaaGreatDoorB912
import Derived.Test.YtiieckboccbhhaaGreatDoorB913
import Derived.Test.YtiieckboccbhhaaGreatDoorB914
import Derived.Test.YtiieckboccbhhaaGreatDoorB922
import Derived.Test.YtiieckboccbhhaaGreatDoorB925
import Derived.Test.YtiieckboccbhhaaGreatDoorB936
import Derived.Test.YtiieckboccbhhaaGreatDoorB923
import Derived.Test.YtiieckboccbhhaaGreatDoorB910
import Derived.Test.YtiieckboccbhhaaGreatDoorB924
import Derived.Test.YtiieckboccbhhaaGreatDoorB915
import Derived.Test.YtiieckboccbhhaaGreatDoorB916
import Derived.Test.YtiieckboccbhhaaGreatDoorB917
import Derived.Test.YtiieckboccbhhaaGreatDoorB918
import Derived.Test.YtiieckboccbhhaaGreatDoorB919
import Derived.Test.YtiieckboccbhhaaGreatDoorB920
import Derived.Test.YtiieckboccbhhaaGreatDoorB921
import Derived.Test.YtiieckboccbhhaaGreatDoorShelf
import Derived.Test.YtiieckboccbhhaaGreatDoorB929
namespace Go.Proofs.YtiieckboccbhhaaGreatDoor
open Go.RowKit
namespace Nt
open _root_.Go.Proofs.YtiieckboccbhhaaGreatDoor.Nm (showN showD Fits show_size show_back rF rQ cutS cutS_size longB okM missF cmpQ cmpQ_m1 trimPrefix_at fits_int FPost)
theorem rat_pos {q : Rat} : 0 < q.num ↔ 0 < q := by
 rw [Rat.lt_iff]
 simp
theorem okM_is (q : Rat) : okM q = (decide (0 < q) && decide (q < 1)) := by
 unfold okM
 have e1 : decide (0 < q.num) = decide (0 < q) := by
  by_cases h : 0 < q
  ·rw [decide_eq_true h, decide_eq_true (rat_pos.2 h)]
  ·rw [decide_eq_false h, decide_eq_false (fun h' => h (rat_pos.1 h'))]
 have e2 : decide (cmpQ q ((1 : Int) : Rat) = -1) = decide (q < 1) := by
  show decide (cmpQ q 1 = -1) = decide (q < 1)
  by_cases h : q < 1
  ·rw [decide_eq_true h, decide_eq_true (cmpQ_m1.2 h)]
  ·rw [decide_eq_false h, decide_eq_false (fun h' => h (cmpQ_m1.1 h'))]
 rw [e1, e2]
set_option maxHeartbeats 4000000 in
theorem isShort_at (n d : ByteArray) (hn : n.size ≤ maxLen) (hd : d.size ≤ maxLen) (w : World) : Calls Tryz.prog 63 #[.agg #[.string n, .string d]] w (fun e w' => e = .returned (.bool (!longB n d)) ∧ Below w.heap.size w w') := by
 have hc := cutS_size n
 have hn' := hn
 have hd' := hd
 unfold maxLen at hn' hd'
 obtain ⟨b, hb⟩ : ∃ b, longB n d = b := ⟨_, rfl⟩
 have HB : Hid (longB n d = b) := Lib.hid hb
 rw [hb]
 clear hb
 go_enter Tryz.func63, Tryz.ntmps63
 go_wp2_with fail
 refine (trimPrefix_at n hn _).mono ?_
 rintro e w' ⟨rfl, rfl⟩
 by_cases h1 : (cutS n).size ≤ 100
 ·have h3 : (decide (((cutS n).size : Int) ≤ 100)) = true := decide_eq_true (by omega)
  by_cases h2 : d.size ≤ 100
  ·have h4 : (decide ((d.size : Int) ≤ 100)) = true := decide_eq_true (by omega)
   have hbf : b = false := by rw [← HB.out]; unfold longB; rw [decide_eq_false (by omega), decide_eq_false (by omega)]; rfl
   go_wp2
   go_ret
   exact ⟨by rw [hbf]; rfl, by go_grown⟩
  ·have h4 : (decide ((d.size : Int) ≤ 100)) = false := decide_eq_false (by omega)
   have hbf : b = true := by rw [← HB.out]; unfold longB; rw [decide_eq_true (show 100 < d.size by omega)]; simp
   go_wp2
   go_ret
   exact ⟨by rw [hbf]; rfl, by go_grown⟩
 ·have h3 : (decide (((cutS n).size : Int) ≤ 100)) = false := decide_eq_false (by omega)
  have hbf : b = true := by rw [← HB.out]; unfold longB; rw [decide_eq_true (show 100 < (cutS n).size by omega)]; simp
  go_wp2
  go_ret
  exact ⟨by rw [hbf]; rfl, by go_grown⟩
theorem fits0 : Fits 0 := fits_int (n := 0) (by decide)
theorem whole0 (w : World) (ht : Tab w) : Calls Tryz.prog 12 #[.int .i64 0] w (RtP w 0) := mWholeQ 0 (by decide) (by decide) w ht
set_option maxRecDepth 100000 in
set_option maxHeartbeats 8000000 in
theorem isMiss_at (n d : ByteArray) (hn : n.size ≤ maxLen) (hd : d.size ≤ maxLen) (w : World) (ht : Tab w) : Calls Tryz.prog 27 #[.agg #[.string n, .string d]] w (FPost w (missF n d)) := by
 go_enter Tryz.func27, Tryz.ntmps27
 have HT0 := Lib.hid ht
 clear ht
 go_upto_region 1 with (fail)
 refine wp_box1 fun w1' hsz hbW hA0 => ?_
 clear hsz
 have HB_r := Lib.hid hA0
 have HW := Lib.hid hbW
 clear hbW hA0
 have c_r_0 : w1'.cell? ⟨w.heap.size, 0, none⟩ = some (.string n) := HB_r.out.2 0
 have c_r_1 : w1'.cell? ⟨w.heap.size, 1, none⟩ = some (.string d) := HB_r.out.2 1
 go_wp2_with fail
 refine (refCheck_at n d hn hd w1' (HT0.out.ext HW.out)).mono ?_
 rintro e w2' ⟨rfl, hbz⟩
 replace HB_r := Lib.hid (HB_r.out.ext hbz)
 replace HW := Lib.hid (ext_trans HW.out hbz)
 clear c_r_0 c_r_1
 clear hbz
 by_cases hf : rF n d = 0
 ·have hne : (rF n d != 0) = false := by simp [hf]
  obtain ⟨q, hq, hrq, rfl, rfl⟩ := show_parts hf
  have HF := Lib.hid hq
  clear hq
  have HM : Hid (missF (showN q) (showD q) = if okM q = false then 1 else if longB (showN q) (showD q) = true then 2 else 0) := Lib.hid (by unfold missF; rw [if_neg (fun h => h hf), hrq])
  clear hf hrq
  generalize missF (showN q) (showD q) = mf at *
  by_cases h0 : 0 < q
  ·by_cases h1 : q < 1
   ·have HL0 : Hid (decide (0 < q) = true) := Lib.hid (decide_eq_true h0)
    have HL1 : Hid (decide (q < 1) = true) := Lib.hid (decide_eq_true h1)
    have HO : Hid (okM q = true) := Lib.hid (by rw [okM_is, HL0.out, HL1.out]; rfl)
    clear h0 h1
    go_upto_region 4 with (fail)
    have c_r_0 : w2'.cell? ⟨w.heap.size, 0, none⟩ = some (.string (showN q)) := HB_r.out.2 0
    have c_r_1 : w2'.cell? ⟨w.heap.size, 1, none⟩ = some (.string (showD q)) := HB_r.out.2 1
    refine Grow.wp_region_grow 9 [TP.eq (rtV (0)), TP.eq (rtV (q)), TP.eq (.bool true), TP.eq (.bool false), TP.eq (.bool false), TP.eq (rtV (q)), TP.eq (rtV (1)), TP.eq (.bool true), TP.eq (.bool false)] [[], [], [0, 1], [2], [3], [4], [4], [4, 5, 6], [4, 7]] (by kernel_rfl) (by kernel_rfl) ⟨?o0a, ?o1a, ?o2a, ?o3a, ?o4a, ?o5a, ?o6a, ?o7a, ?o8a, trivial⟩ ?_
    case o0a =>
     intro w' hb
     show wpList _ _ _ _ _ _
     go_wp2_with fail
     refine (whole0 w' (HT0.out.ext (ext_trans HW.out hb))).mono ?_
     rintro e wz ⟨rfl, hbz⟩
     go_wp2
     exact ⟨rfl, hbz, rfl⟩
    case o1a =>
     intro w' hb
     have c_r_0' := zzc hb c_r_0
     have c_r_1' := zzc hb c_r_1
     show wpList _ _ _ _ _ _
     go_wp2
     exact ⟨rfl, Below.refl _ _, rfl⟩
    case o2a =>
     intro w' hb v1 hv1 v2 hv2
     obtain rfl : v1 = _ := hv1
     obtain rfl : v2 = _ := hv2
     show wpList _ _ _ _ _ _
     simp only [Grow.dstOf, zz1, zz2, zz3, zz4, Act.put, zz5, zz6, zz7]
     go_wp2_with fail
     refine (less_is 0 q true HL0.out fits0 HF.out w' (HT0.out.ext (ext_trans HW.out hb))).mono ?_
     rintro e wz ⟨rfl, hbz⟩
     go_wp2
     exact ⟨rfl, hbz, rfl⟩
    case o3a =>
     intro w' hb v1 hv1
     obtain rfl : v1 = _ := hv1
     show wpList _ _ _ _ _ _
     simp only [Grow.dstOf, zz1, zz2, zz3, zz4, Act.put, zz5, zz6, zz7]
     go_wp2
     exact ⟨rfl, Below.refl _ _, rfl⟩
    case o4a =>
     intro w' hb v1 hv1
     obtain rfl : v1 = _ := hv1
     show wpList _ _ _ _ _ _
     simp only [Grow.dstOf, zz1, zz2, zz3, zz4, Act.put, zz5, zz6, zz7]
     go_wp2
     exact ⟨rfl, Below.refl _ _, rfl⟩
    case o5a =>
     intro w' hb v1 hv1
     obtain rfl : v1 = _ := hv1
     have c_r_0' := zzc hb c_r_0
     have c_r_1' := zzc hb c_r_1
     show wpList _ _ _ _ _ _
     simp only [Grow.dstOf, zz1, zz2, zz3, zz4, Act.put, zz5, zz6, zz7]
     go_wp2
     exact ⟨rfl, Below.refl _ _, rfl⟩
    case o6a =>
     intro w' hb v1 hv1
     obtain rfl : v1 = _ := hv1
     show wpList _ _ _ _ _ _
     simp only [Grow.dstOf, zz1, zz2, zz3, zz4, Act.put, zz5, zz6, zz7]
     go_wp2_with fail
     refine (whole1 w' (HT0.out.ext (ext_trans HW.out hb))).mono ?_
     rintro e wz ⟨rfl, hbz⟩
     go_wp2
     exact ⟨rfl, hbz, rfl⟩
    case o7a =>
     intro w' hb v1 hv1 v2 hv2 v3 hv3
     obtain rfl : v1 = _ := hv1
     obtain rfl : v2 = _ := hv2
     obtain rfl : v3 = _ := hv3
     show wpList _ _ _ _ _ _
     simp only [Grow.dstOf, zz1, zz2, zz3, zz4, Act.put, zz5, zz6, zz7]
     go_wp2_with fail
     refine (less_is q 1 true HL1.out HF.out fits1 w' (HT0.out.ext (ext_trans HW.out hb))).mono ?_
     rintro e wz ⟨rfl, hbz⟩
     go_wp2
     exact ⟨rfl, hbz, rfl⟩
    case o8a =>
     intro w' hb v1 hv1 v2 hv2
     obtain rfl : v1 = _ := hv1
     obtain rfl : v2 = _ := hv2
     show wpList _ _ _ _ _ _
     simp only [Grow.dstOf, zz1, zz2, zz3, zz4, Act.put, zz5, zz6, zz7]
     go_wp2
     exact ⟨rfl, Below.refl _ _, rfl⟩
    intro w3' hbz u0 hu0 u1 hu1 u2 hu2 u3 hu3 u4 hu4 u5 hu5 u6 hu6 u7 hu7 u8 hu8
    obtain rfl : u0 = _ := hu0
    obtain rfl : u1 = _ := hu1
    obtain rfl : u2 = _ := hu2
    obtain rfl : u3 = _ := hu3
    obtain rfl : u4 = _ := hu4
    obtain rfl : u5 = _ := hu5
    obtain rfl : u6 = _ := hu6
    obtain rfl : u7 = _ := hu7
    obtain rfl : u8 = _ := hu8
    replace HB_r := Lib.hid (HB_r.out.ext hbz)
    replace HW := Lib.hid (ext_trans HW.out hbz)
    clear c_r_0 c_r_1
    clear hbz
    show wpList _ _ _ _ _ _
    simp only [Act.put, zz5, zz6, zz7]
    have c_r_0 : w3'.cell? ⟨w.heap.size, 0, none⟩ = some (.string (showN q)) := HB_r.out.2 0
    have c_r_1 : w3'.cell? ⟨w.heap.size, 1, none⟩ = some (.string (showD q)) := HB_r.out.2 1
    by_cases hl : longB (showN q) (showD q) = true
    ·have HLB := Lib.hid hl
     clear hl
     go_wp2_with fail
     refine (isShort_at (showN q) (showD q) hn hd w3').mono ?_
     rintro e w4' ⟨rfl, hbz⟩
     rw [HLB.out]
     replace HB_r := Lib.hid (HB_r.out.ext hbz)
     replace HW := Lib.hid (ext_trans HW.out hbz)
     clear c_r_0 c_r_1
     clear hbz
     go_wp2
     go_ret
     exact ⟨ret_int (by rw [HM.out, HO.out, if_neg (by decide), if_pos HLB.out]), HW.out⟩
    ·have hl' : longB (showN q) (showD q) = false := by simpa using hl
     have HLB := Lib.hid hl'
     clear hl hl'
     go_wp2_with fail
     refine (isShort_at (showN q) (showD q) hn hd w3').mono ?_
     rintro e w4' ⟨rfl, hbz⟩
     rw [HLB.out]
     replace HB_r := Lib.hid (HB_r.out.ext hbz)
     replace HW := Lib.hid (ext_trans HW.out hbz)
     clear c_r_0 c_r_1
     clear hbz
     go_wp2
     go_ret
     exact ⟨ret_int (by rw [HM.out, HO.out, if_neg (by decide), HLB.out, if_neg (by decide)]), HW.out⟩
   ·have HL0 : Hid (decide (0 < q) = true) := Lib.hid (decide_eq_true h0)
    have HL1 : Hid (decide (q < 1) = false) := Lib.hid (decide_eq_false h1)
    have HO : Hid (okM q = false) := Lib.hid (by rw [okM_is, HL0.out, HL1.out]; rfl)
    clear h0 h1
    go_upto_region 4 with (fail)
    have c_r_0 : w2'.cell? ⟨w.heap.size, 0, none⟩ = some (.string (showN q)) := HB_r.out.2 0
    have c_r_1 : w2'.cell? ⟨w.heap.size, 1, none⟩ = some (.string (showD q)) := HB_r.out.2 1
    refine Grow.wp_region_grow 9 [TP.eq (rtV (0)), TP.eq (rtV (q)), TP.eq (.bool true), TP.eq (.bool false), TP.eq (.bool false), TP.eq (rtV (q)), TP.eq (rtV (1)), TP.eq (.bool false), TP.eq (.bool true)] [[], [], [0, 1], [2], [3], [4], [4], [4, 5, 6], [4, 7]] (by kernel_rfl) (by kernel_rfl) ⟨?o0b, ?o1b, ?o2b, ?o3b, ?o4b, ?o5b, ?o6b, ?o7b, ?o8b, trivial⟩ ?_
    case o0b =>
     intro w' hb
     show wpList _ _ _ _ _ _
     go_wp2_with fail
     refine (whole0 w' (HT0.out.ext (ext_trans HW.out hb))).mono ?_
     rintro e wz ⟨rfl, hbz⟩
     go_wp2
     exact ⟨rfl, hbz, rfl⟩
    case o1b =>
     intro w' hb
     have c_r_0' := zzc hb c_r_0
     have c_r_1' := zzc hb c_r_1
     show wpList _ _ _ _ _ _
     go_wp2
     exact ⟨rfl, Below.refl _ _, rfl⟩
    case o2b =>
     intro w' hb v1 hv1 v2 hv2
     obtain rfl : v1 = _ := hv1
     obtain rfl : v2 = _ := hv2
     show wpList _ _ _ _ _ _
     simp only [Grow.dstOf, zz1, zz2, zz3, zz4, Act.put, zz5, zz6, zz7]
     go_wp2_with fail
     refine (less_is 0 q true HL0.out fits0 HF.out w' (HT0.out.ext (ext_trans HW.out hb))).mono ?_
     rintro e wz ⟨rfl, hbz⟩
     go_wp2
     exact ⟨rfl, hbz, rfl⟩
    case o3b =>
     intro w' hb v1 hv1
     obtain rfl : v1 = _ := hv1
     show wpList _ _ _ _ _ _
     simp only [Grow.dstOf, zz1, zz2, zz3, zz4, Act.put, zz5, zz6, zz7]
     go_wp2
     exact ⟨rfl, Below.refl _ _, rfl⟩
    case o4b =>
     intro w' hb v1 hv1
     obtain rfl : v1 = _ := hv1
     show wpList _ _ _ _ _ _
     simp only [Grow.dstOf, zz1, zz2, zz3, zz4, Act.put, zz5, zz6, zz7]
     go_wp2
     exact ⟨rfl, Below.refl _ _, rfl⟩
    case o5b =>
     intro w' hb v1 hv1
     obtain rfl : v1 = _ := hv1
     have c_r_0' := zzc hb c_r_0
     have c_r_1' := zzc hb c_r_1
     show wpList _ _ _ _ _ _
     simp only [Grow.dstOf, zz1, zz2, zz3, zz4, Act.put, zz5, zz6, zz7]
     go_wp2
     exact ⟨rfl, Below.refl _ _, rfl⟩
    case o6b =>
     intro w' hb v1 hv1
     obtain rfl : v1 = _ := hv1
     show wpList _ _ _ _ _ _
     simp only [Grow.dstOf, zz1, zz2, zz3, zz4, Act.put, zz5, zz6, zz7]
     go_wp2_with fail
     refine (whole1 w' (HT0.out.ext (ext_trans HW.out hb))).mono ?_
     rintro e wz ⟨rfl, hbz⟩
     go_wp2
     exact ⟨rfl, hbz, rfl⟩
    case o7b =>
     intro w' hb v1 hv1 v2 hv2 v3 hv3
     obtain rfl : v1 = _ := hv1
     obtain rfl : v2 = _ := hv2
     obtain rfl : v3 = _ := hv3
     show wpList _ _ _ _ _ _
     simp only [Grow.dstOf, zz1, zz2, zz3, zz4, Act.put, zz5, zz6, zz7]
     go_wp2_with fail
     refine (less_is q 1 false HL1.out HF.out fits1 w' (HT0.out.ext (ext_trans HW.out hb))).mono ?_
     rintro e wz ⟨rfl, hbz⟩
     go_wp2
     exact ⟨rfl, hbz, rfl⟩
    case o8b =>
     intro w' hb v1 hv1 v2 hv2
     obtain rfl : v1 = _ := hv1
     obtain rfl : v2 = _ := hv2
     show wpList _ _ _ _ _ _
     simp only [Grow.dstOf, zz1, zz2, zz3, zz4, Act.put, zz5, zz6, zz7]
     go_wp2
     exact ⟨rfl, Below.refl _ _, rfl⟩
    intro w3' hbz u0 hu0 u1 hu1 u2 hu2 u3 hu3 u4 hu4 u5 hu5 u6 hu6 u7 hu7 u8 hu8
    obtain rfl : u0 = _ := hu0
    obtain rfl : u1 = _ := hu1
    obtain rfl : u2 = _ := hu2
    obtain rfl : u3 = _ := hu3
    obtain rfl : u4 = _ := hu4
    obtain rfl : u5 = _ := hu5
    obtain rfl : u6 = _ := hu6
    obtain rfl : u7 = _ := hu7
    obtain rfl : u8 = _ := hu8
    replace HB_r := Lib.hid (HB_r.out.ext hbz)
    replace HW := Lib.hid (ext_trans HW.out hbz)
    clear c_r_0 c_r_1
    clear hbz
    show wpList _ _ _ _ _ _
    simp only [Act.put, zz5, zz6, zz7]
    go_wp2
    go_ret
    exact ⟨ret_int (by rw [HM.out, HO.out, if_pos rfl]), HW.out⟩
  ·have HL0 : Hid (decide (0 < q) = false) := Lib.hid (decide_eq_false h0)
   have HO : Hid (okM q = false) := Lib.hid (by rw [okM_is, HL0.out]; rfl)
   clear h0
   go_upto_region 4 with (fail)
   have c_r_0 : w2'.cell? ⟨w.heap.size, 0, none⟩ = some (.string (showN q)) := HB_r.out.2 0
   have c_r_1 : w2'.cell? ⟨w.heap.size, 1, none⟩ = some (.string (showD q)) := HB_r.out.2 1
   refine Grow.wp_region_grow 9 [TP.eq (rtV (0)), TP.eq (rtV (q)), TP.eq (.bool false), TP.eq (.bool true), TP.eq (.bool true), TP.eq undef, TP.eq undef, TP.eq undef, TP.eq undef] [[], [], [0, 1], [2], [3], [4], [4], [4, 5, 6], [4, 7]] (by kernel_rfl) (by kernel_rfl) ⟨?o0c, ?o1c, ?o2c, ?o3c, ?o4c, ?o5c, ?o6c, ?o7c, ?o8c, trivial⟩ ?_
   case o0c =>
    intro w' hb
    show wpList _ _ _ _ _ _
    go_wp2_with fail
    refine (whole0 w' (HT0.out.ext (ext_trans HW.out hb))).mono ?_
    rintro e wz ⟨rfl, hbz⟩
    go_wp2
    exact ⟨rfl, hbz, rfl⟩
   case o1c =>
    intro w' hb
    have c_r_0' := zzc hb c_r_0
    have c_r_1' := zzc hb c_r_1
    show wpList _ _ _ _ _ _
    go_wp2
    exact ⟨rfl, Below.refl _ _, rfl⟩
   case o2c =>
    intro w' hb v1 hv1 v2 hv2
    obtain rfl : v1 = _ := hv1
    obtain rfl : v2 = _ := hv2
    show wpList _ _ _ _ _ _
    simp only [Grow.dstOf, zz1, zz2, zz3, zz4, Act.put, zz5, zz6, zz7]
    go_wp2_with fail
    refine (less_is 0 q false HL0.out fits0 HF.out w' (HT0.out.ext (ext_trans HW.out hb))).mono ?_
    rintro e wz ⟨rfl, hbz⟩
    go_wp2
    exact ⟨rfl, hbz, rfl⟩
   case o3c =>
    intro w' hb v1 hv1
    obtain rfl : v1 = _ := hv1
    show wpList _ _ _ _ _ _
    simp only [Grow.dstOf, zz1, zz2, zz3, zz4, Act.put, zz5, zz6, zz7]
    go_wp2
    exact ⟨rfl, Below.refl _ _, rfl⟩
   case o4c =>
    intro w' hb v1 hv1
    obtain rfl : v1 = _ := hv1
    show wpList _ _ _ _ _ _
    simp only [Grow.dstOf, zz1, zz2, zz3, zz4, Act.put, zz5, zz6, zz7]
    go_wp2
    exact ⟨rfl, Below.refl _ _, rfl⟩
   case o5c =>
    intro w' hb v1 hv1
    obtain rfl : v1 = _ := hv1
    show wpList _ _ _ _ _ _
    simp only [Grow.dstOf, zz1, zz2, zz3, zz4, Act.put, zz5, zz6, zz7]
    go_wp2
    exact ⟨rfl, Below.refl _ _, rfl⟩
   case o6c =>
    intro w' hb v1 hv1
    obtain rfl : v1 = _ := hv1
    show wpList _ _ _ _ _ _
    simp only [Grow.dstOf, zz1, zz2, zz3, zz4, Act.put, zz5, zz6, zz7]
    go_wp2
    exact ⟨rfl, Below.refl _ _, rfl⟩
   case o7c =>
    intro w' hb v1 hv1 v2 hv2 v3 hv3
    obtain rfl : v1 = _ := hv1
    obtain rfl : v2 = _ := hv2
    obtain rfl : v3 = _ := hv3
    show wpList _ _ _ _ _ _
    simp only [Grow.dstOf, zz1, zz2, zz3, zz4, Act.put, zz5, zz6, zz7]
    go_wp2
    exact ⟨rfl, Below.refl _ _, rfl⟩
   case o8c =>
    intro w' hb v1 hv1 v2 hv2
    obtain rfl : v1 = _ := hv1
    obtain rfl : v2 = _ := hv2
    show wpList _ _ _ _ _ _
    simp only [Grow.dstOf, zz1, zz2, zz3, zz4, Act.put, zz5, zz6, zz7]
    go_wp2
    exact ⟨rfl, Below.refl _ _, rfl⟩
   intro w3' hbz u0 hu0 u1 hu1 u2 hu2 u3 hu3 u4 hu4 u5 hu5 u6 hu6 u7 hu7 u8 hu8
   obtain rfl : u0 = _ := hu0
   obtain rfl : u1 = _ := hu1
   obtain rfl : u2 = _ := hu2
   obtain rfl : u3 = _ := hu3
   obtain rfl : u4 = _ := hu4
   obtain rfl : u5 = _ := hu5
   obtain rfl : u6 = _ := hu6
   obtain rfl : u7 = _ := hu7
   obtain rfl : u8 = _ := hu8
   replace HB_r := Lib.hid (HB_r.out.ext hbz)
   replace HW := Lib.hid (ext_trans HW.out hbz)
   clear c_r_0 c_r_1
   clear hbz
   show wpList _ _ _ _ _ _
   simp only [Act.put, zz5, zz6, zz7]
   go_wp2
   go_ret
   exact ⟨ret_int (by rw [HM.out, HO.out, if_pos rfl]), HW.out⟩
 ·have hne : (rF n d != 0) = true := by simp [hf]
  have HM : Hid (missF n d = rF n d) := Lib.hid (by unfold missF; rw [if_pos hf])
  clear hf
  go_wp2
  go_ret
  exact ⟨ret_int HM.out.symm, HW.out⟩
end Nt
end Go.Proofs.YtiieckboccbhhaaGreatDoor
namespace Go.Proofs.YtiieckboccbhhaaGreatDoor
open Go.RowKit
namespace Nm
theorem cmpQ_ge0 {x y : Rat} : decide (0 ≤ cmpQ x y) = decide (y ≤ x) := by
  rw [decide_eq_decide]; exact cmpQ_ge
theorem dnLo.pass {n m : Nat} {h : Rat} {L k : Nat} (d : dnLo n m h L (k + 1) 0) (ht : ¬ tailQ n m (k + 1) ≤ h) : dnLo n m h L k 0 := by
  unfold dnLo at d ⊢; rw [if_pos rfl] at d ⊢; rw [← d]; rw [show lowV n m h (k + 1) = if tailQ n m (k + 1) ≤ h then k + 1 else lowV n m h k from rfl, if_neg ht]
theorem dnHi_next (n m : Nat) (g : Rat) (d k : Nat) : highV n m g d (k + 1) = highV n m g (if g ≤ tailQ n m (k + 1) then k + 1 else d) k := rfl
end Nm
end Go.Proofs.YtiieckboccbhhaaGreatDoor
namespace Go.Proofs.YtiieckboccbhhaaGreatDoor
open Go.RowKit
namespace Nt
open _root_.Go.Proofs.YtiieckboccbhhaaGreatDoor.Nm (cmpQ cmpZ cmpQ_range cmpQ_neg)

def BPost' (w : World) (b : Bool) (e : Ending) (w' : World) : Prop := e = .returned (.bool b) ∧ Below w.heap.size w w'
/-- a difference's sign -/
theorem fr_cmp {a b : Bool} {n d m e : Nat} (hd : 0 < d) (he : 0 < e) {c : Bool} {n9 d9 : Nat} (h : Sim (plB a (!b) (n * e) (m * d)) (plN a (!b) (n * e) (m * d)) (d * e) c n9 d9) : cmpQ (fq a n d) (fq b m e) = if n9 = 0 then 0 else if c = true then -1 else 1 := by
 have hp : 0 < d * e := Nat.mul_pos hd he
 have h1 := h.fq hp
 rw [fq_add hd he, fq_neg] at h1
 have hd9 := h.pos hp
 generalize fq a n d = x at *
 generalize fq b m e = y at *
 have hanti : cmpQ x y = -cmpQ y x := by unfold cmpQ cmpZ; (repeat' split) <;> omega
 have hr := cmpQ_range x y
 by_cases h0 : n9 = 0
 ·rw [if_pos h0]
  have h2 := (fq_zero (b := c) hd9).2 h0
  have hxy : x = y := by grind
  rw [hxy] at hanti ⊢
  omega
 ·rw [if_neg h0]
  have h2 := fq_below (b := c) hd9 (by omega : 0 < n9)
  have h3 : fq c n9 d9 ≠ 0 := fun e => h0 ((fq_zero hd9).1 e)
  by_cases hc : c = true
  ·rw [if_pos hc]
   have h4 := h2.2 hc
   have h5 := cmpQ_neg.2 (show x < y by grind)
   omega
  ·rw [if_neg hc]
   have h4 : ¬ fq c n9 d9 < 0 := fun e => hc (h2.1 e)
   have h5 := cmpQ_neg.2 (show y < x by grind)
   omega
set_option maxRecDepth 100000 in
set_option maxHeartbeats 16000000 in
theorem fzero_at (t : F3) (n d : Nat) (w : World) (hx : FX w t n d) : Calls Tryz.prog 69 #[f3V t] w (BPost' w (decide (n = 0))) := by
 have hl := Lib.hid hx.lens
 clear hx
 go_enter Tryz.func69, Tryz.ntmps69
 go_upto_region 1 with (fail)
 refine wp_frs1 fun w1' hbz hR0 => ?_
 have HR_a : Hid (RH w1' w.heap.size #[.bool t.b, .slice t.a1 t.n1 t.c1, .slice t.a2 t.n2 t.c2] 48) := Lib.hid hR0
 have HW := Lib.hid hbz
 clear hbz hR0
 obtain ⟨-, c_a_1, -⟩ := zs3 HR_a.out
 have HV : Hid (((t.n1 : Int) == 0) = decide (n = 0)) := Lib.hid (by rw [hl.out.1, Bool.eq_iff_iff, beq_iff_eq, decide_eq_true_eq, ← wlen_eq_zero]; omega)
 clear hl
 go_wp2
 exact bodyPost_ret (v := .bool ((t.n1 : Int) == 0)) (by simp [results, Tryz.results69, go_sem]) rfl ⟨by rw [HV.out], HW.out⟩
set_option maxRecDepth 100000 in
set_option maxHeartbeats 16000000 in
theorem forder_at (t s : F3) (n d m e : Nat) (hd : 0 < d) (he : 0 < e) (l1 : wlen n ≤ 10000000) (l2 : wlen d ≤ 10000000) (l3 : wlen m ≤ 10000000) (l4 : wlen e ≤ 10000000) (w : World) (hx : FX w t n d) (hy : FX w s m e) : Calls Tryz.prog 32 #[f3V t, f3V s] w (fun e' w' => e' = .returned (.int .i64 (cmpQ (fq t.b n d) (fq s.b m e))) ∧ Below w.heap.size w w') := by
 have H0a := Lib.hid hx
 have H0b := Lib.hid hy
 clear hx hy
 go_enter Tryz.func32, Tryz.ntmps32
 go_upto_region 1 with (fail)
 refine wp_frs2 fun w1' hbz hR0 hR1 => ?_
 have HR_a : Hid (RH w1' w.heap.size #[.bool t.b, .slice t.a1 t.n1 t.c1, .slice t.a2 t.n2 t.c2] 48) := Lib.hid hR0
 have HR_b : Hid (RH w1' (w.heap.size + 1) #[.bool s.b, .slice s.a1 s.n1 s.c1, .slice s.a2 s.n2 s.c2] 48) := Lib.hid hR1
 have HW := Lib.hid hbz
 clear hbz hR0 hR1
 have Ha : Hid (FX w1' t n d) := Lib.hid (H0a.out.ext HW.out)
 have Hb : Hid (FX w1' s m e) := Lib.hid (H0b.out.ext HW.out)
 clear H0a H0b
 obtain ⟨c_a_0, c_a_1, c_a_2⟩ := zs3 HR_a.out
 obtain ⟨c_b_0, c_b_1, c_b_2⟩ := zs3 HR_b.out
 go_wp2_with fail
 refine (fminus_at t s n d m e hd he l1 l2 l3 l4 w1' Ha.out Hb.out).mono ?_
 rintro e w2' ⟨t9, n9, d9, rfl, hs9, hx9, hbz⟩
 replace HR_a := Lib.hid (HR_a.out.ext hbz)
 replace HR_b := Lib.hid (HR_b.out.ext hbz)
 replace Ha := Lib.hid (Ha.out.ext hbz)
 replace Hb := Lib.hid (Hb.out.ext hbz)
 replace HW := Lib.hid (ext_trans HW.out hbz)
 clear c_a_0 c_a_1 c_a_2 c_b_0 c_b_1 c_b_2
 clear hbz
 have HX9 : Hid (FX w2' t9 n9 d9) := Lib.hid hx9
 clear hx9
 clear Ha
 clear Hb
 clear HR_a
 clear HR_b
 have HC := Lib.hid (fr_cmp hd he hs9)
 clear hs9
 go_upto_region 2 with (fail)
 refine wp_frs1 fun w3' hbz hR0 => ?_
 have le_c : w.heap.size ≤ w2'.heap.size := HW.out.size
 replace HX9 := Lib.hid (HX9.out.ext hbz)
 replace HW := Lib.hid (ext_trans HW.out hbz)
 clear hbz
 have HR_c : Hid (RH w3' w2'.heap.size #[.bool t9.b, .slice t9.a1 t9.n1 t9.c1, .slice t9.a2 t9.n2 t9.c2] 48) := Lib.hid hR0
 clear hR0
 generalize w2'.heap.size = b_c at *
 obtain ⟨c_c_0, c_c_1, c_c_2⟩ := zs3 HR_c.out
 go_wp2_with fail
 refine (fzero_at t9 n9 d9 w3' HX9.out).mono ?_
 rintro e w4' ⟨rfl, hbz⟩
 replace HR_c := Lib.hid (HR_c.out.ext hbz)
 replace HX9 := Lib.hid (HX9.out.ext hbz)
 replace HW := Lib.hid (ext_trans HW.out hbz)
 clear c_c_0 c_c_1 c_c_2
 clear hbz
 by_cases h0 : n9 = 0
 ·have hz : decide (n9 = 0) = true := decide_eq_true h0
  have HV : Hid (0 = cmpQ (fq t.b n d) (fq s.b m e)) := Lib.hid (by rw [HC.out, if_pos h0])
  clear h0
  go_wp2
  exact bodyPost_ret (v := .int .i64 0) (by simp [results, Tryz.results32, go_sem]) rfl ⟨by rw [HV.out], HW.out⟩
 ·have hz : decide (n9 = 0) = false := decide_eq_false h0
  have HC2 : Hid (cmpQ (fq t.b n d) (fq s.b m e) = if t9.b = true then -1 else 1) := Lib.hid (by rw [HC.out, if_neg h0])
  clear h0
  obtain ⟨c_c_0, -, -⟩ := zs3 HR_c.out
  by_cases hb : t9.b = true
  ·have HV : Hid (-1 = cmpQ (fq t.b n d) (fq s.b m e)) := Lib.hid (by rw [HC2.out, if_pos hb])
   go_wp2
   exact bodyPost_ret (v := .int .i64 (-1)) (by simp [results, Tryz.results32, go_sem]) rfl ⟨by rw [HV.out], HW.out⟩
  ·have HV : Hid (1 = cmpQ (fq t.b n d) (fq s.b m e)) := Lib.hid (by rw [HC2.out, if_neg hb])
   have hb' : t9.b = false := by simpa using hb
   go_wp2
   exact bodyPost_ret (v := .int .i64 1) (by simp [results, Tryz.results32, go_sem]) rfl ⟨by rw [HV.out], HW.out⟩
end Nt
end Go.Proofs.YtiieckboccbhhaaGreatDoor
namespace Go.Proofs.YtiieckboccbhhaaGreatDoor
open Go.RowKit
namespace Nt
open _root_.Go.Proofs.YtiieckboccbhhaaGreatDoor.Nm (rF rQ rQ_facts cutB cutS decv sgn)

theorem fq_rQ {n d : ByteArray} (h : rF n d = 0) : fq (cutB n.data.toList) (decv (cutS n).data.toList) (decv d.data.toList) = rQ n d := by
 obtain ⟨_, h2, h3, _⟩ := rQ_facts h
 unfold fq
 rw [← h2, ← h3]
 rw [← Rat.mkRat_eq_div]
 exact Rat.mkRat_self _
set_option maxRecDepth 100000 in
set_option maxHeartbeats 16000000 in
theorem fracOf_at (n d : ByteArray) (hn : n.size ≤ maxLen) (hr : rF n d = 0) (w : World) : Calls Tryz.prog 28 #[.agg #[.string n, .string d]] w (FcPost w (cutB n.data.toList) (decv (cutS n).data.toList) (decv d.data.toList)) := by
 obtain ⟨h0, _, _, h4, h5, h6, h7, _⟩ := rQ_facts hr
 have HD := Lib.hid (And.intro (whole_digs h4) (whole_digs h5))
 clear h0 h4 h5 hr
 go_enter Tryz.func28, Tryz.ntmps28
 go_upto_region 1 with (fail)
 refine wp_frs2 fun w1' hbz hR0 hR1 => ?_
 have HR_a : Hid (RH w1' w.heap.size #[.string n, .string d] 23) := Lib.hid hR0
 have HR_o : Hid (RH w1' (w.heap.size + 1) #[.bool false, .slice none 0 0, .slice none 0 0] 48) := Lib.hid hR1
 have HW := Lib.hid hbz
 clear hbz hR0 hR1
 obtain ⟨c_a_0, c_a_1⟩ := zs2 HR_a.out
 go_wp2_with fail
 refine (open_at n d hn HD.out.1 HD.out.2 h6 h7 w1').mono ?_
 rintro e w2' ⟨v1, v2, rfl, hx1, hx2, hbz⟩
 obtain ⟨a1, c1, rfl, _⟩ := hx1.open_
 obtain ⟨a2, c2, rfl, _⟩ := hx2.open_
 replace HR_a := Lib.hid (HR_a.out.ext hbz)
 replace HR_o := Lib.hid (HR_o.out.ext hbz)
 replace HW := Lib.hid (ext_trans HW.out hbz)
 clear c_a_0 c_a_1
 clear hbz
 have H1 : Hid (N w2' (.slice a1 (digs (decv (cutS n).data.toList)).length c1) (decv (cutS n).data.toList)) := Lib.hid hx1
 clear hx1
 have H2 : Hid (N w2' (.slice a2 (digs (decv d.data.toList)).length c2) (decv d.data.toList)) := Lib.hid hx2
 clear hx2
 obtain ⟨x, hx⟩ : ∃ x, decv (cutS n).data.toList = x := ⟨_, rfl⟩
 obtain ⟨y, hy⟩ : ∃ y, decv d.data.toList = y := ⟨_, rfl⟩
 obtain ⟨b, hb⟩ : ∃ b, cutB n.data.toList = b := ⟨_, rfl⟩
 rw [hx] at H1
 rw [hy] at H2
 rw [hx, hy, hb]
 have HXY := Lib.hid (And.intro hx (And.intro hy hb))
 clear hx hy hb h6 h7
 go_upto_region 2 with (fail)
 refine wp_frs1 fun w3' hbz hR0 => ?_
 have lt_a_x : w.heap.size < w2'.heap.size := HR_a.out.lt
 have lt_o_x : (w.heap.size + 1) < w2'.heap.size := HR_o.out.lt
 have le_x : w.heap.size ≤ w2'.heap.size := HW.out.size
 replace HR_a := Lib.hid (HR_a.out.ext hbz)
 replace HR_o := Lib.hid (HR_o.out.ext hbz)
 replace H1 := Lib.hid (H1.out.ext hbz)
 replace H2 := Lib.hid (H2.out.ext hbz)
 replace HW := Lib.hid (ext_trans HW.out hbz)
 clear hbz
 have HR_x : Hid (RH w3' w2'.heap.size #[.bool b, .slice a1 (digs x).length c1, .slice a2 (digs y).length c2] 80) := Lib.hid hR0
 clear hR0
 generalize w2'.heap.size = b_x at *
 obtain ⟨c_x_0, c_x_1, c_x_2⟩ := zs3 HR_x.out
 obtain ⟨c_o_0, c_o_1, c_o_2⟩ := zs3 HR_o.out
 have f_o_0 := HR_o.out.fre 0
 have f_o_1 := HR_o.out.fre 1
 have f_o_2 := HR_o.out.fre 2
 go_wp2
 obtain ⟨w4', hX⟩ : ∃ Z9, Z9 = (((w3'.setCell ⟨(w.heap.size + 1), 0, none⟩ (.bool b)).setCell ⟨(w.heap.size + 1), 1, none⟩ (.slice a1 (digs x).length c1)).setCell ⟨(w.heap.size + 1), 2, none⟩ (.slice a2 (digs y).length c2)) := ⟨_, rfl⟩
 rw [← hX]
 have n_o : Hid (RH w4' (w.heap.size + 1) #[.bool b, .slice a1 (digs x).length c1, .slice a2 (digs y).length c2] 48) := by rw [hX]; exact Lib.hid ((((HR_o.out).set 0 (.bool b)).set 1 (.slice a1 (digs x).length c1)).set 2 (.slice a2 (digs y).length c2))
 have n_a : Hid (RH w4' w.heap.size #[.string n, .string d] 23) := by rw [hX]; exact Lib.hid (zzo (zzo (zzo (HR_a.out) (by omega)) (by omega)) (by omega))
 have n_x : Hid (RH w4' b_x #[.bool b, .slice a1 (digs x).length c1, .slice a2 (digs y).length c2] 80) := by rw [hX]; exact Lib.hid (zzo (zzo (zzo (HR_x.out) (by omega)) (by omega)) (by omega))
 have HK_ : ∀ p : Addr, p.block ≠ (w.heap.size + 1) → w4'.cell? p = w3'.cell? p := fun p hp => by rw [hX]; exact (cs_other' hp).trans ((cs_other' hp).trans (cs_other' hp))
 have n_H1 : Hid (N w4' (.slice a1 (digs x).length c1) x) := Lib.hid (H1.out.far HR_o.out.box (noI_all (by simp [isI])) HK_)
 have n_H2 : Hid (N w4' (.slice a2 (digs y).length c2) y) := Lib.hid (H2.out.far HR_o.out.box (noI_all (by simp [isI])) HK_)
 have nW : Hid (Below w.heap.size w w4') := by rw [hX]; exact Lib.hid (zzw (zzw (zzw (HW.out) (by omega)) (by omega)) (by omega))
 clear c_x_0 c_x_1 c_x_2 c_o_0 c_o_1 c_o_2 f_o_0 f_o_1 f_o_2
 clear hX HK_ HW HR_a HR_o HR_x H1 H2
 have HR_a := n_a; clear n_a
 have HR_o := n_o; clear n_o
 have HR_x := n_x; clear n_x
 have H1 := n_H1; clear n_H1
 have H2 := n_H2; clear n_H2
 have HW := nW; clear nW
 exact bodyPost_ret (v := .agg #[.bool b, .slice a1 (digs x).length c1, .slice a2 (digs y).length c2]) (results_cell_row rfl _ _ _ _ _ _ _ rfl HR_o.out Tryz.underlying48 rfl (by kernel_rfl : (Tryz.prog.info? 48).map (·.size) = some 3)) rfl ⟨⟨b, a1, _, c1, a2, _, c2⟩, rfl, HXY.out.2.2.symm, ⟨(by rw [HXY.out.1]; exact H1.out), (by rw [HXY.out.2.1]; exact H2.out)⟩, HW.out⟩
end Nt
end Go.Proofs.YtiieckboccbhhaaGreatDoor
