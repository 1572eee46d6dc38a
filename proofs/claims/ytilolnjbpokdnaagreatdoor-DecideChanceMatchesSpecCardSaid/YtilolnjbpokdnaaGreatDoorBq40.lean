/- IsShort, IsMiss, CheckTest, enough of the references. Printed by gen_rdec.py. What a right miss is; a test is decided just where the reference says so. -/
import Derived.Test.YtilolnjbpokdnaaGreatDoorBq29
import Derived.Test.YtilolnjbpokdnaaGreatDoorBq39
import Derived.Test.YtilolnjbpokdnaaGreatDoorBq26
import Derived.Test.YtilolnjbpokdnaaGreatDoorBq02
import Derived.Test.YtilolnjbpokdnaaGreatDoorBq37
import Derived.Test.YtilolnjbpokdnaaGreatDoorBq38
namespace Go.Proofs.YtilolnjbpokdnaaGreatDoor
open Go.RowKit
namespace Nt
open _root_.Go.Proofs.YtilolnjbpokdnaaGreatDoor.Nm (showN showD Fits show_size show_back rF rQ cutS cutS_size longB okM missF testF cmpQ cmpQ_m1 trimPrefix_at fits_int FPost)
theorem rat_pos {q : Rat} : 0 < q.num ↔ 0 < q := by
 rw [Rat.lt_iff]
 simp
theorem okM_is (q : Rat) : okM q = (decide (0 < q) && decide (q < 1)) := by
 unfold okM
 have e1 : decide (0 < q.num) = decide (0 < q) := by
  by_cases h : 0 < q
  ·rw [decide_eq_true h, decide_eq_true (rat_pos.2 h)]
  ·rw [decide_eq_false h, decide_eq_false (fun h' => h (rat_pos.1 h'))]
 have e2 : decide (cmpQ q ((1 : Int) : Rat) = -1) = decide (q < 1) := by
  show decide (cmpQ q 1 = -1) = decide (q < 1)
  by_cases h : q < 1
  ·rw [decide_eq_true h, decide_eq_true (cmpQ_m1.2 h)]
  ·rw [decide_eq_false h, decide_eq_false (fun h' => h (cmpQ_m1.1 h'))]
 rw [e1, e2]
set_option maxHeartbeats 4000000 in
theorem isShort_at (n d : ByteArray) (hn : n.size ≤ maxLen) (hd : d.size ≤ maxLen) (w : World) : Calls Tryz.prog 114 #[.agg #[.string n, .string d]] w (fun e w' => e = .returned (.bool (!longB n d)) ∧ Below w.heap.size w w') := by
 have hc := cutS_size n
 have hn' := hn
 have hd' := hd
 unfold maxLen at hn' hd'
 obtain ⟨b, hb⟩ : ∃ b, longB n d = b := ⟨_, rfl⟩
 have HB : Hid (longB n d = b) := Lib.hid hb
 rw [hb]
 clear hb
 go_enter Tryz.func114, Tryz.ntmps114
 go_wp2_with fail
 refine (trimPrefix_at n hn _).mono ?_
 rintro e w' ⟨rfl, rfl⟩
 by_cases h1 : (cutS n).size ≤ 100
 ·have h3 : (decide (((cutS n).size : Int) ≤ 100)) = true := decide_eq_true (by omega)
  by_cases h2 : d.size ≤ 100
  ·have h4 : (decide ((d.size : Int) ≤ 100)) = true := decide_eq_true (by omega)
   have hbf : b = false := by rw [← HB.out]; unfold longB; rw [decide_eq_false (by omega), decide_eq_false (by omega)]; rfl
   go_wp2
   go_ret
   exact ⟨by rw [hbf]; rfl, by go_grown⟩
  ·have h4 : (decide ((d.size : Int) ≤ 100)) = false := decide_eq_false (by omega)
   have hbf : b = true := by rw [← HB.out]; unfold longB; rw [decide_eq_true (show 100 < d.size by omega)]; simp
   go_wp2
   go_ret
   exact ⟨by rw [hbf]; rfl, by go_grown⟩
 ·have h3 : (decide (((cutS n).size : Int) ≤ 100)) = false := decide_eq_false (by omega)
  have hbf : b = true := by rw [← HB.out]; unfold longB; rw [decide_eq_true (show 100 < (cutS n).size by omega)]; simp
  go_wp2
  go_ret
  exact ⟨by rw [hbf]; rfl, by go_grown⟩
theorem fits0 : Fits 0 := fits_int (n := 0) (by decide)
theorem fits1 : Fits 1 := fits_int (n := 1) (by decide)
theorem fits2 : Fits 2 := fits_int (n := 2) (by decide)
theorem whole1 (w : World) (ht : Tab w) : Calls Tryz.prog 27 #[.int .i64 1] w (RtP w 1) := mWholeQ 1 (by decide) (by decide) w ht
theorem whole2 (w : World) (ht : Tab w) : Calls Tryz.prog 27 #[.int .i64 2] w (RtP w 2) := mWholeQ 2 (by decide) (by decide) w ht
set_option maxRecDepth 100000 in
set_option maxHeartbeats 8000000 in
theorem isMiss_at (n d : ByteArray) (hn : n.size ≤ maxLen) (hd : d.size ≤ maxLen) (w : World) (ht : Tab w) : Calls Tryz.prog 63 #[.agg #[.string n, .string d]] w (FPost w (missF n d)) := by
 go_enter Tryz.func63, Tryz.ntmps63
 have HT0 := Lib.hid ht
 clear ht
 go_upto_region 1 with (fail)
 refine wp_box1 fun w1' hsz hbW hA0 => ?_
 clear hsz
 have HB_r := Lib.hid hA0
 have HW := Lib.hid hbW
 clear hbW hA0
 have c_r_0 : w1'.cell? ⟨w.heap.size, 0, none⟩ = some (.string n) := HB_r.out.2 0
 have c_r_1 : w1'.cell? ⟨w.heap.size, 1, none⟩ = some (.string d) := HB_r.out.2 1
 go_wp2_with fail
 refine (refCheck_at n d hn hd w1' (HT0.out.ext HW.out)).mono ?_
 rintro e w2' ⟨rfl, hbz⟩
 replace HB_r := Lib.hid (HB_r.out.ext hbz)
 replace HW := Lib.hid (ext_trans HW.out hbz)
 clear c_r_0 c_r_1
 clear hbz
 by_cases hf : rF n d = 0
 ·have hne : (rF n d != 0) = false := by simp [hf]
  obtain ⟨q, hq, hrq, rfl, rfl⟩ := show_parts hf
  have HF := Lib.hid hq
  clear hq
  have HM : Hid (missF (showN q) (showD q) = if okM q = false then 1 else if longB (showN q) (showD q) = true then 2 else 0) := Lib.hid (by unfold missF; rw [if_neg (fun h => h hf), hrq])
  clear hf hrq
  generalize missF (showN q) (showD q) = mf at *
  by_cases h0 : 0 < q
  ·by_cases h1 : q < 1
   ·have HL0 : Hid (decide (0 < q) = true) := Lib.hid (decide_eq_true h0)
    have HL1 : Hid (decide (q < 1) = true) := Lib.hid (decide_eq_true h1)
    have HO : Hid (okM q = true) := Lib.hid (by rw [okM_is, HL0.out, HL1.out]; rfl)
    clear h0 h1
    go_upto_region 4 with (fail)
    have c_r_0 : w2'.cell? ⟨w.heap.size, 0, none⟩ = some (.string (showN q)) := HB_r.out.2 0
    have c_r_1 : w2'.cell? ⟨w.heap.size, 1, none⟩ = some (.string (showD q)) := HB_r.out.2 1
    refine Grow.wp_region_grow 9 [TP.eq (rtV (0)), TP.eq (rtV (q)), TP.eq (.bool true), TP.eq (.bool false), TP.eq (.bool false), TP.eq (rtV (q)), TP.eq (rtV (1)), TP.eq (.bool true), TP.eq (.bool false)] [[], [], [0, 1], [2], [3], [4], [4], [4, 5, 6], [4, 7]] (by kernel_rfl) (by kernel_rfl) ⟨?o0a, ?o1a, ?o2a, ?o3a, ?o4a, ?o5a, ?o6a, ?o7a, ?o8a, trivial⟩ ?_
    case o0a =>
     intro w' hb
     show wpList _ _ _ _ _ _
     go_wp2_with fail
     refine (whole0 w' (HT0.out.ext (ext_trans HW.out hb))).mono ?_
     rintro e wz ⟨rfl, hbz⟩
     go_wp2
     exact ⟨rfl, hbz, rfl⟩
    case o1a =>
     intro w' hb
     have c_r_0' := zzc hb c_r_0
     have c_r_1' := zzc hb c_r_1
     show wpList _ _ _ _ _ _
     go_wp2
     exact ⟨rfl, Below.refl _ _, rfl⟩
    case o2a =>
     intro w' hb v1 hv1 v2 hv2
     obtain rfl : v1 = _ := hv1
     obtain rfl : v2 = _ := hv2
     show wpList _ _ _ _ _ _
     simp only [Grow.dstOf, zz1, zz2, zz3, zz4, Act.put, zz5, zz6, zz7]
     go_wp2_with fail
     refine (less_is 0 q true HL0.out fits0 HF.out w' (HT0.out.ext (ext_trans HW.out hb))).mono ?_
     rintro e wz ⟨rfl, hbz⟩
     go_wp2
     exact ⟨rfl, hbz, rfl⟩
    case o3a =>
     intro w' hb v1 hv1
     obtain rfl : v1 = _ := hv1
     show wpList _ _ _ _ _ _
     simp only [Grow.dstOf, zz1, zz2, zz3, zz4, Act.put, zz5, zz6, zz7]
     go_wp2
     exact ⟨rfl, Below.refl _ _, rfl⟩
    case o4a =>
     intro w' hb v1 hv1
     obtain rfl : v1 = _ := hv1
     show wpList _ _ _ _ _ _
     simp only [Grow.dstOf, zz1, zz2, zz3, zz4, Act.put, zz5, zz6, zz7]
     go_wp2
     exact ⟨rfl, Below.refl _ _, rfl⟩
    case o5a =>
     intro w' hb v1 hv1
     obtain rfl : v1 = _ := hv1
     have c_r_0' := zzc hb c_r_0
     have c_r_1' := zzc hb c_r_1
     show wpList _ _ _ _ _ _
     simp only [Grow.dstOf, zz1, zz2, zz3, zz4, Act.put, zz5, zz6, zz7]
     go_wp2
     exact ⟨rfl, Below.refl _ _, rfl⟩
    case o6a =>
     intro w' hb v1 hv1
     obtain rfl : v1 = _ := hv1
     show wpList _ _ _ _ _ _
     simp only [Grow.dstOf, zz1, zz2, zz3, zz4, Act.put, zz5, zz6, zz7]
     go_wp2_with fail
     refine (whole1 w' (HT0.out.ext (ext_trans HW.out hb))).mono ?_
     rintro e wz ⟨rfl, hbz⟩
     go_wp2
     exact ⟨rfl, hbz, rfl⟩
    case o7a =>
     intro w' hb v1 hv1 v2 hv2 v3 hv3
     obtain rfl : v1 = _ := hv1
     obtain rfl : v2 = _ := hv2
     obtain rfl : v3 = _ := hv3
     show wpList _ _ _ _ _ _
     simp only [Grow.dstOf, zz1, zz2, zz3, zz4, Act.put, zz5, zz6, zz7]
     go_wp2_with fail
     refine (less_is q 1 true HL1.out HF.out fits1 w' (HT0.out.ext (ext_trans HW.out hb))).mono ?_
     rintro e wz ⟨rfl, hbz⟩
     go_wp2
     exact ⟨rfl, hbz, rfl⟩
    case o8a =>
     intro w' hb v1 hv1 v2 hv2
     obtain rfl : v1 = _ := hv1
     obtain rfl : v2 = _ := hv2
     show wpList _ _ _ _ _ _
     simp only [Grow.dstOf, zz1, zz2, zz3, zz4, Act.put, zz5, zz6, zz7]
     go_wp2
     exact ⟨rfl, Below.refl _ _, rfl⟩
    intro w3' hbz u0 hu0 u1 hu1 u2 hu2 u3 hu3 u4 hu4 u5 hu5 u6 hu6 u7 hu7 u8 hu8
    obtain rfl : u0 = _ := hu0
    obtain rfl : u1 = _ := hu1
    obtain rfl : u2 = _ := hu2
    obtain rfl : u3 = _ := hu3
    obtain rfl : u4 = _ := hu4
    obtain rfl : u5 = _ := hu5
    obtain rfl : u6 = _ := hu6
    obtain rfl : u7 = _ := hu7
    obtain rfl : u8 = _ := hu8
    replace HB_r := Lib.hid (HB_r.out.ext hbz)
    replace HW := Lib.hid (ext_trans HW.out hbz)
    clear c_r_0 c_r_1
    clear hbz
    show wpList _ _ _ _ _ _
    simp only [Act.put, zz5, zz6, zz7]
    have c_r_0 : w3'.cell? ⟨w.heap.size, 0, none⟩ = some (.string (showN q)) := HB_r.out.2 0
    have c_r_1 : w3'.cell? ⟨w.heap.size, 1, none⟩ = some (.string (showD q)) := HB_r.out.2 1
    by_cases hl : longB (showN q) (showD q) = true
    ·have HLB := Lib.hid hl
     clear hl
     go_wp2_with fail
     refine (isShort_at (showN q) (showD q) hn hd w3').mono ?_
     rintro e w4' ⟨rfl, hbz⟩
     rw [HLB.out]
     replace HB_r := Lib.hid (HB_r.out.ext hbz)
     replace HW := Lib.hid (ext_trans HW.out hbz)
     clear c_r_0 c_r_1
     clear hbz
     go_wp2
     go_ret
     exact ⟨ret_int (by rw [HM.out, HO.out, if_neg (by decide), if_pos HLB.out]), HW.out⟩
    ·have hl' : longB (showN q) (showD q) = false := by simpa using hl
     have HLB := Lib.hid hl'
     clear hl hl'
     go_wp2_with fail
     refine (isShort_at (showN q) (showD q) hn hd w3').mono ?_
     rintro e w4' ⟨rfl, hbz⟩
     rw [HLB.out]
     replace HB_r := Lib.hid (HB_r.out.ext hbz)
     replace HW := Lib.hid (ext_trans HW.out hbz)
     clear c_r_0 c_r_1
     clear hbz
     go_wp2
     go_ret
     exact ⟨ret_int (by rw [HM.out, HO.out, if_neg (by decide), HLB.out, if_neg (by decide)]), HW.out⟩
   ·have HL0 : Hid (decide (0 < q) = true) := Lib.hid (decide_eq_true h0)
    have HL1 : Hid (decide (q < 1) = false) := Lib.hid (decide_eq_false h1)
    have HO : Hid (okM q = false) := Lib.hid (by rw [okM_is, HL0.out, HL1.out]; rfl)
    clear h0 h1
    go_upto_region 4 with (fail)
    have c_r_0 : w2'.cell? ⟨w.heap.size, 0, none⟩ = some (.string (showN q)) := HB_r.out.2 0
    have c_r_1 : w2'.cell? ⟨w.heap.size, 1, none⟩ = some (.string (showD q)) := HB_r.out.2 1
    refine Grow.wp_region_grow 9 [TP.eq (rtV (0)), TP.eq (rtV (q)), TP.eq (.bool true), TP.eq (.bool false), TP.eq (.bool false), TP.eq (rtV (q)), TP.eq (rtV (1)), TP.eq (.bool false), TP.eq (.bool true)] [[], [], [0, 1], [2], [3], [4], [4], [4, 5, 6], [4, 7]] (by kernel_rfl) (by kernel_rfl) ⟨?o0b, ?o1b, ?o2b, ?o3b, ?o4b, ?o5b, ?o6b, ?o7b, ?o8b, trivial⟩ ?_
    case o0b =>
     intro w' hb
     show wpList _ _ _ _ _ _
     go_wp2_with fail
     refine (whole0 w' (HT0.out.ext (ext_trans HW.out hb))).mono ?_
     rintro e wz ⟨rfl, hbz⟩
     go_wp2
     exact ⟨rfl, hbz, rfl⟩
    case o1b =>
     intro w' hb
     have c_r_0' := zzc hb c_r_0
     have c_r_1' := zzc hb c_r_1
     show wpList _ _ _ _ _ _
     go_wp2
     exact ⟨rfl, Below.refl _ _, rfl⟩
    case o2b =>
     intro w' hb v1 hv1 v2 hv2
     obtain rfl : v1 = _ := hv1
     obtain rfl : v2 = _ := hv2
     show wpList _ _ _ _ _ _
     simp only [Grow.dstOf, zz1, zz2, zz3, zz4, Act.put, zz5, zz6, zz7]
     go_wp2_with fail
     refine (less_is 0 q true HL0.out fits0 HF.out w' (HT0.out.ext (ext_trans HW.out hb))).mono ?_
     rintro e wz ⟨rfl, hbz⟩
     go_wp2
     exact ⟨rfl, hbz, rfl⟩
    case o3b =>
     intro w' hb v1 hv1
     obtain rfl : v1 = _ := hv1
     show wpList _ _ _ _ _ _
     simp only [Grow.dstOf, zz1, zz2, zz3, zz4, Act.put, zz5, zz6, zz7]
     go_wp2
     exact ⟨rfl, Below.refl _ _, rfl⟩
    case o4b =>
     intro w' hb v1 hv1
     obtain rfl : v1 = _ := hv1
     show wpList _ _ _ _ _ _
     simp only [Grow.dstOf, zz1, zz2, zz3, zz4, Act.put, zz5, zz6, zz7]
     go_wp2
     exact ⟨rfl, Below.refl _ _, rfl⟩
    case o5b =>
     intro w' hb v1 hv1
     obtain rfl : v1 = _ := hv1
     have c_r_0' := zzc hb c_r_0
     have c_r_1' := zzc hb c_r_1
     show wpList _ _ _ _ _ _
     simp only [Grow.dstOf, zz1, zz2, zz3, zz4, Act.put, zz5, zz6, zz7]
     go_wp2
     exact ⟨rfl, Below.refl _ _, rfl⟩
    case o6b =>
     intro w' hb v1 hv1
     obtain rfl : v1 = _ := hv1
     show wpList _ _ _ _ _ _
     simp only [Grow.dstOf, zz1, zz2, zz3, zz4, Act.put, zz5, zz6, zz7]
     go_wp2_with fail
     refine (whole1 w' (HT0.out.ext (ext_trans HW.out hb))).mono ?_
     rintro e wz ⟨rfl, hbz⟩
     go_wp2
     exact ⟨rfl, hbz, rfl⟩
    case o7b =>
     intro w' hb v1 hv1 v2 hv2 v3 hv3
     obtain rfl : v1 = _ := hv1
     obtain rfl : v2 = _ := hv2
     obtain rfl : v3 = _ := hv3
     show wpList _ _ _ _ _ _
     simp only [Grow.dstOf, zz1, zz2, zz3, zz4, Act.put, zz5, zz6, zz7]
     go_wp2_with fail
     refine (less_is q 1 false HL1.out HF.out fits1 w' (HT0.out.ext (ext_trans HW.out hb))).mono ?_
     rintro e wz ⟨rfl, hbz⟩
     go_wp2
     exact ⟨rfl, hbz, rfl⟩
    case o8b =>
     intro w' hb v1 hv1 v2 hv2
     obtain rfl : v1 = _ := hv1
     obtain rfl : v2 = _ := hv2
     show wpList _ _ _ _ _ _
     simp only [Grow.dstOf, zz1, zz2, zz3, zz4, Act.put, zz5, zz6, zz7]
     go_wp2
     exact ⟨rfl, Below.refl _ _, rfl⟩
    intro w3' hbz u0 hu0 u1 hu1 u2 hu2 u3 hu3 u4 hu4 u5 hu5 u6 hu6 u7 hu7 u8 hu8
    obtain rfl : u0 = _ := hu0
    obtain rfl : u1 = _ := hu1
    obtain rfl : u2 = _ := hu2
    obtain rfl : u3 = _ := hu3
    obtain rfl : u4 = _ := hu4
    obtain rfl : u5 = _ := hu5
    obtain rfl : u6 = _ := hu6
    obtain rfl : u7 = _ := hu7
    obtain rfl : u8 = _ := hu8
    replace HB_r := Lib.hid (HB_r.out.ext hbz)
    replace HW := Lib.hid (ext_trans HW.out hbz)
    clear c_r_0 c_r_1
    clear hbz
    show wpList _ _ _ _ _ _
    simp only [Act.put, zz5, zz6, zz7]
    go_wp2
    go_ret
    exact ⟨ret_int (by rw [HM.out, HO.out, if_pos rfl]), HW.out⟩
  ·have HL0 : Hid (decide (0 < q) = false) := Lib.hid (decide_eq_false h0)
   have HO : Hid (okM q = false) := Lib.hid (by rw [okM_is, HL0.out]; rfl)
   clear h0
   go_upto_region 4 with (fail)
   have c_r_0 : w2'.cell? ⟨w.heap.size, 0, none⟩ = some (.string (showN q)) := HB_r.out.2 0
   have c_r_1 : w2'.cell? ⟨w.heap.size, 1, none⟩ = some (.string (showD q)) := HB_r.out.2 1
   refine Grow.wp_region_grow 9 [TP.eq (rtV (0)), TP.eq (rtV (q)), TP.eq (.bool false), TP.eq (.bool true), TP.eq (.bool true), TP.eq undef, TP.eq undef, TP.eq undef, TP.eq undef] [[], [], [0, 1], [2], [3], [4], [4], [4, 5, 6], [4, 7]] (by kernel_rfl) (by kernel_rfl) ⟨?o0c, ?o1c, ?o2c, ?o3c, ?o4c, ?o5c, ?o6c, ?o7c, ?o8c, trivial⟩ ?_
   case o0c =>
    intro w' hb
    show wpList _ _ _ _ _ _
    go_wp2_with fail
    refine (whole0 w' (HT0.out.ext (ext_trans HW.out hb))).mono ?_
    rintro e wz ⟨rfl, hbz⟩
    go_wp2
    exact ⟨rfl, hbz, rfl⟩
   case o1c =>
    intro w' hb
    have c_r_0' := zzc hb c_r_0
    have c_r_1' := zzc hb c_r_1
    show wpList _ _ _ _ _ _
    go_wp2
    exact ⟨rfl, Below.refl _ _, rfl⟩
   case o2c =>
    intro w' hb v1 hv1 v2 hv2
    obtain rfl : v1 = _ := hv1
    obtain rfl : v2 = _ := hv2
    show wpList _ _ _ _ _ _
    simp only [Grow.dstOf, zz1, zz2, zz3, zz4, Act.put, zz5, zz6, zz7]
    go_wp2_with fail
    refine (less_is 0 q false HL0.out fits0 HF.out w' (HT0.out.ext (ext_trans HW.out hb))).mono ?_
    rintro e wz ⟨rfl, hbz⟩
    go_wp2
    exact ⟨rfl, hbz, rfl⟩
   case o3c =>
    intro w' hb v1 hv1
    obtain rfl : v1 = _ := hv1
    show wpList _ _ _ _ _ _
    simp only [Grow.dstOf, zz1, zz2, zz3, zz4, Act.put, zz5, zz6, zz7]
    go_wp2
    exact ⟨rfl, Below.refl _ _, rfl⟩
   case o4c =>
    intro w' hb v1 hv1
    obtain rfl : v1 = _ := hv1
    show wpList _ _ _ _ _ _
    simp only [Grow.dstOf, zz1, zz2, zz3, zz4, Act.put, zz5, zz6, zz7]
    go_wp2
    exact ⟨rfl, Below.refl _ _, rfl⟩
   case o5c =>
    intro w' hb v1 hv1
    obtain rfl : v1 = _ := hv1
    show wpList _ _ _ _ _ _
    simp only [Grow.dstOf, zz1, zz2, zz3, zz4, Act.put, zz5, zz6, zz7]
    go_wp2
    exact ⟨rfl, Below.refl _ _, rfl⟩
   case o6c =>
    intro w' hb v1 hv1
    obtain rfl : v1 = _ := hv1
    show wpList _ _ _ _ _ _
    simp only [Grow.dstOf, zz1, zz2, zz3, zz4, Act.put, zz5, zz6, zz7]
    go_wp2
    exact ⟨rfl, Below.refl _ _, rfl⟩
   case o7c =>
    intro w' hb v1 hv1 v2 hv2 v3 hv3
    obtain rfl : v1 = _ := hv1
    obtain rfl : v2 = _ := hv2
    obtain rfl : v3 = _ := hv3
    show wpList _ _ _ _ _ _
    simp only [Grow.dstOf, zz1, zz2, zz3, zz4, Act.put, zz5, zz6, zz7]
    go_wp2
    exact ⟨rfl, Below.refl _ _, rfl⟩
   case o8c =>
    intro w' hb v1 hv1 v2 hv2
    obtain rfl : v1 = _ := hv1
    obtain rfl : v2 = _ := hv2
    show wpList _ _ _ _ _ _
    simp only [Grow.dstOf, zz1, zz2, zz3, zz4, Act.put, zz5, zz6, zz7]
    go_wp2
    exact ⟨rfl, Below.refl _ _, rfl⟩
   intro w3' hbz u0 hu0 u1 hu1 u2 hu2 u3 hu3 u4 hu4 u5 hu5 u6 hu6 u7 hu7 u8 hu8
   obtain rfl : u0 = _ := hu0
   obtain rfl : u1 = _ := hu1
   obtain rfl : u2 = _ := hu2
   obtain rfl : u3 = _ := hu3
   obtain rfl : u4 = _ := hu4
   obtain rfl : u5 = _ := hu5
   obtain rfl : u6 = _ := hu6
   obtain rfl : u7 = _ := hu7
   obtain rfl : u8 = _ := hu8
   replace HB_r := Lib.hid (HB_r.out.ext hbz)
   replace HW := Lib.hid (ext_trans HW.out hbz)
   clear c_r_0 c_r_1
   clear hbz
   show wpList _ _ _ _ _ _
   simp only [Act.put, zz5, zz6, zz7]
   go_wp2
   go_ret
   exact ⟨ret_int (by rw [HM.out, HO.out, if_pos rfl]), HW.out⟩
 ·have hne : (rF n d != 0) = true := by simp [hf]
  have HM : Hid (missF n d = rF n d) := Lib.hid (by unfold missF; rw [if_pos hf])
  clear hf
  go_wp2
  go_ret
  exact ⟨ret_int HM.out.symm, HW.out⟩
set_option maxRecDepth 100000 in
set_option maxHeartbeats 8000000 in
theorem checkTest_at (d k : Int) (n m : ByteArray) (hn : n.size ≤ maxLen) (hm : m.size ≤ maxLen) (w : World) (ht : Tab w) : Calls Tryz.prog 13 #[.agg #[.int .i64 d, .int .i64 k, .string n, .string m]] w (FPost w (testF d k n m)) := by
 have HU : Hid (testF d k n m = if ¬ (1 ≤ d ∧ d ≤ 3) then 4 else if ¬ (1 ≤ k ∧ k ≤ 5) then 1 else missF n m) := Lib.hid rfl
 generalize testF d k n m = tf at *
 go_enter Tryz.func13, Tryz.ntmps13
 have HT0 := Lib.hid ht
 clear ht
 go_upto_region 1 with (fail)
 refine wp_box1 fun w1' hsz hbW hA0 => ?_
 clear hsz
 have HB_t := Lib.hid hA0
 have HW := Lib.hid hbW
 clear hbW hA0
 have c_t_0 : w1'.cell? ⟨w.heap.size, 0, none⟩ = some (.int .i64 d) := HB_t.out.2 0
 have c_t_1 : w1'.cell? ⟨w.heap.size, 1, none⟩ = some (.int .i64 k) := HB_t.out.2 1
 have c_t_2 : w1'.cell? ⟨w.heap.size, 2, none⟩ = some (.string n) := HB_t.out.2 2
 have c_t_3 : w1'.cell? ⟨w.heap.size, 3, none⟩ = some (.string m) := HB_t.out.2 3
 by_cases h1 : d < 1
 ·have HV : Hid (tf = 4) := Lib.hid (by rw [HU.out, if_pos (by omega)])
  clear HU
  go_wp2
  go_ret
  exact ⟨ret_int HV.out.symm, HW.out⟩
 ·by_cases h2 : 3 < d
  ·have HV : Hid (tf = 4) := Lib.hid (by rw [HU.out, if_pos (by omega)])
   clear HU
   go_wp2
   go_ret
   exact ⟨ret_int HV.out.symm, HW.out⟩
  ·by_cases h3 : k < 1
   ·have HV : Hid (tf = 1) := Lib.hid (by rw [HU.out, if_neg (by omega), if_pos (by omega)])
    clear HU
    go_wp2
    go_ret
    exact ⟨ret_int HV.out.symm, HW.out⟩
   ·by_cases h4 : 5 < k
    ·have HV : Hid (tf = 1) := Lib.hid (by rw [HU.out, if_neg (by omega), if_pos (by omega)])
     clear HU
     go_wp2
     go_ret
     exact ⟨ret_int HV.out.symm, HW.out⟩
    ·have HV : Hid (tf = missF n m) := Lib.hid (by rw [HU.out, if_neg (by omega), if_neg (by omega)])
     clear HU
     go_wp2_with fail
     refine (isMiss_at n m hn hm w1' (HT0.out.ext HW.out)).mono ?_
     rintro e w2' ⟨rfl, hbz⟩
     replace HB_t := Lib.hid (HB_t.out.ext hbz)
     replace HW := Lib.hid (ext_trans HW.out hbz)
     clear c_t_0 c_t_1 c_t_2 c_t_3
     clear hbz
     go_wp2
     go_ret
     exact ⟨ret_int HV.out.symm, HW.out⟩
set_option maxRecDepth 100000 in
set_option maxHeartbeats 8000000 in
theorem enough_at (e q : Rat) (b : Bool) (hb : decide (e * q < 1) = b) (h1 : Fits e) (h2 : Fits q) (h3 : Fits (e * q)) (w : World) (ht : Tab w) : Calls Tryz.prog 155 #[rtV e, rtV q] w (fun x w' => x = .returned (.bool (!b)) ∧ Below w.heap.size w w') := by
 have HFS := Lib.hid (And.intro h1 (And.intro h2 h3))
 have HB := Lib.hid hb
 clear h1 h2 h3 hb
 go_enter Tryz.func155, Tryz.ntmps155
 have HT0 := Lib.hid ht
 clear ht
 go_upto_region 1 with (fail)
 refine wp_box2 fun w1' hsz hbW hA0 hA1 => ?_
 clear hsz
 have HB_a := Lib.hid hA0
 have HB_b := Lib.hid hA1
 have HW := Lib.hid hbW
 clear hbW hA0 hA1
 have c_a_0 : w1'.cell? ⟨w.heap.size, 0, none⟩ = some (.string (showN (e))) := HB_a.out.2 0
 have c_a_1 : w1'.cell? ⟨w.heap.size, 1, none⟩ = some (.string (showD (e))) := HB_a.out.2 1
 have c_b_0 : w1'.cell? ⟨w.heap.size + 1, 0, none⟩ = some (.string (showN (q))) := HB_b.out.2 0
 have c_b_1 : w1'.cell? ⟨w.heap.size + 1, 1, none⟩ = some (.string (showD (q))) := HB_b.out.2 1
 go_wp2_with fail
 refine (mTimesQ e q HFS.out.1 HFS.out.2.1 HFS.out.2.2 w1' (HT0.out.ext HW.out)).mono ?_
 rintro e w2' ⟨rfl, hbz⟩
 replace HB_a := Lib.hid (HB_a.out.ext hbz)
 replace HB_b := Lib.hid (HB_b.out.ext hbz)
 replace HW := Lib.hid (ext_trans HW.out hbz)
 clear c_a_0 c_a_1 c_b_0 c_b_1
 clear hbz
 go_wp2_with fail
 refine (whole1 w2' (HT0.out.ext HW.out)).mono ?_
 rintro e w3' ⟨rfl, hbz⟩
 replace HB_a := Lib.hid (HB_a.out.ext hbz)
 replace HB_b := Lib.hid (HB_b.out.ext hbz)
 replace HW := Lib.hid (ext_trans HW.out hbz)
 clear hbz
 go_wp2_with fail
 refine (less_is (e * q) 1 b HB.out HFS.out.2.2 fits1 w3' (HT0.out.ext HW.out)).mono ?_
 rintro e w4' ⟨rfl, hbz⟩
 replace HB_a := Lib.hid (HB_a.out.ext hbz)
 replace HB_b := Lib.hid (HB_b.out.ext hbz)
 replace HW := Lib.hid (ext_trans HW.out hbz)
 clear hbz
 go_wp2
 go_ret
 exact ⟨rfl, HW.out⟩
end Nt
end Go.Proofs.YtilolnjbpokdnaaGreatDoor
namespace Go.Proofs.YtilolnjbpokdnaaGreatDoor
open Go.RowKit
namespace lawLine
open _root_.Go.Proofs.YtilolnjbpokdnaaGreatDoor.Nm _root_.Go.Proofs.YtilolnjbpokdnaaGreatDoor.Nt
theorem miss_parts {n m : ByteArray} (h : missF n m = 0) : ∃ q, Fits q ∧ rQ n m = q ∧ n = showN q ∧ m = showD q ∧ 0 < q ∧ q < 1 ∧ Ln 100 100 q := by
  have hr := (missF_ok h).1
  obtain ⟨q, hq, hrq, hn, hm⟩ := show_parts hr
  unfold missF at h
  rw [if_neg (fun h' => h' hr)] at h
  by_cases ho : okM (rQ n m) = false
  · rw [if_pos ho] at h; cases h
  · rw [if_neg ho] at h
    have ho' : okM q = true := by rw [← hrq]; simpa using ho
    rw [okM_is] at ho'
    simp only [Bool.and_eq_true, decide_eq_true_eq] at ho'
    by_cases hl : longB n m = true
    · rw [if_pos hl] at h; cases h
    · refine ⟨q, hq, hrq, hn, hm, ho'.1, ho'.2, ?_⟩
      have hl' : longB n m = false := by simpa using hl
      unfold longB at hl'
      simp only [Bool.or_eq_false_iff, decide_eq_false_iff_not] at hl'
      obtain ⟨_, h2, h3, h4, h5, h6, h7, _⟩ := rQ_facts hr
      have l1 : (cutS n).data.toList.length = (cutS n).size := Array.length_toList
      have l2 : m.data.toList.length = m.size := Array.length_toList
      have e1 := decv_lt (whole_digs h4)
      have e2 := decv_lt (whole_digs h5)
      rw [← hrq]
      constructor
      · rw [h2, sgn_natAbs]
        exact Nat.le_trans (Nat.le_of_lt e1) (ten_le (by omega))
      · rw [h3]
        exact Nat.le_trans (Nat.le_of_lt e2) (ten_le (by omega))
theorem dec_enough {d : Int} (d1 : 1 ≤ d) (d3 : d ≤ 3) {bets : Nat} (hb : 1 ≤ bets) {q : Rat} (h0 : 0 < q) (u v : Nat) : decB d bets q⁻¹ u v = !(decide (evR d bets u v * q < 1)) := by
  unfold decB
  rw [evQ_real d d1 d3 bets hb]
  have h : (0 ≤ cmpQ (evR d bets u v) q⁻¹) ↔ ¬ (evR d bets u v * q < 1) := by
    rw [cmpQ_ge, Rat.not_lt]
    have hne := ne_of_pos h0
    have hi := Rat.inv_pos.2 h0
    constructor
    · intro h
      have := Rat.mul_le_mul_of_nonneg_right h (Rat.le_of_lt h0)
      have e : q⁻¹ * q = 1 := by grind
      rw [e] at this; exact this
    · intro h
      have := Rat.mul_le_mul_of_nonneg_right h (Rat.le_of_lt hi)
      have e : evR d bets u v * q * q⁻¹ = evR d bets u v := by grind
      rw [e, Rat.one_mul] at this; exact this
  by_cases hc : evR d bets u v * q < 1
  · rw [decide_eq_true hc, decide_eq_false (fun h' => h.1 h' hc)]; rfl
  · rw [decide_eq_false hc, decide_eq_true (h.2 hc)]; rfl
end lawLine
namespace Nt
open _root_.Go.Proofs.YtilolnjbpokdnaaGreatDoor.Nm (Fits)
theorem enough_is (e q : Rat) (r : Bool) (hr : (!(decide (e * q < 1))) = r) (h1 : Fits e) (h2 : Fits q) (h3 : Fits (e * q)) (w : World) (ht : Tab w) : Calls Tryz.prog 155 #[rtV e, rtV q] w (fun x w' => x = .returned (.bool r) ∧ Below w.heap.size w w') := by
  subst hr; exact enough_at e q _ rfl h1 h2 h3 w ht
end Nt
end Go.Proofs.YtilolnjbpokdnaaGreatDoor
