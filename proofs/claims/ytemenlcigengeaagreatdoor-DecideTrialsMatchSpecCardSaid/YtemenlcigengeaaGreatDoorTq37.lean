/- IsShort, IsMiss, CheckTest, enough of the references. Printed by gen_rdec.py. -/
import Derived.Test.YtemenlcigengeaaGreatDoorTq36
import Derived.Test.YtemenlcigengeaaGreatDoorTq00
import Derived.Test.YtemenlcigengeaaGreatDoorTq03
import Derived.Test.YtemenlcigengeaaGreatDoorTq16
import Derived.Test.YtemenlcigengeaaGreatDoorProg
import Derived.Test.YtemenlcigengeaaGreatDoorTq05
import Derived.Test.YtemenlcigengeaaGreatDoorTq06
import Derived.Test.YtemenlcigengeaaGreatDoorTq07
import Derived.Test.YtemenlcigengeaaGreatDoorTq08
import Derived.Test.YtemenlcigengeaaGreatDoorTq17
import Derived.Test.YtemenlcigengeaaGreatDoorTq18
import Derived.Test.YtemenlcigengeaaGreatDoorTq19
import Derived.Test.YtemenlcigengeaaGreatDoorTq23
import Derived.Test.YtemenlcigengeaaGreatDoorTq24
import Derived.Test.YtemenlcigengeaaGreatDoorTq25
import Derived.Test.YtemenlcigengeaaGreatDoorTq26
import Derived.Test.YtemenlcigengeaaGreatDoorTq27
import Derived.Test.YtemenlcigengeaaGreatDoorTq28
import Derived.Test.YtemenlcigengeaaGreatDoorTq29
import Derived.Test.YtemenlcigengeaaGreatDoorShelf
import Derived.Test.YtemenlcigengeaaGreatDoorTq30
import Derived.Test.YtemenlcigengeaaGreatDoorTq20
import Derived.Test.YtemenlcigengeaaGreatDoorTq31
import Derived.Test.YtemenlcigengeaaGreatDoorTq32
import Derived.Test.YtemenlcigengeaaGreatDoorTq33
import Derived.Test.YtemenlcigengeaaGreatDoorTq34
import Derived.Test.YtemenlcigengeaaGreatDoorTq35
import Derived.Test.YtemenlcigengeaaGreatDoorTq21
namespace Go.Proofs.YtemenlcigengeaaGreatDoor
open Go.RowKit
namespace Nt
open _root_.Go.Proofs.YtemenlcigengeaaGreatDoor.Nm (showN showD Fits show_size show_back rF rQ cutS cutS_size longB okM missF cmpQ cmpQ_m1 trimPrefix_at fits_int FPost)
set_option maxHeartbeats 4000000 in
theorem isShort_at (n d : ByteArray) (hn : n.size ≤ maxLen) (hd : d.size ≤ maxLen) (w : World) : Calls Tryz.prog 68 #[.agg #[.string n, .string d]] w (fun e w' => e = .returned (.bool (!longB n d)) ∧ Below w.heap.size w w') := by
  have hc := cutS_size n
  have hn' := hn
  have hd' := hd
  unfold maxLen at hn' hd'
  obtain ⟨b, hb⟩ : ∃ b, longB n d = b := ⟨_, rfl⟩
  have HB : Hid (longB n d = b) := Lib.hid hb
  rw [hb]
  clear hb
  go_enter Tryz.func68, Tryz.ntmps68
  go_wp2_with fail
  refine (trimPrefix_at n hn _).mono ?_
  rintro e w' ⟨rfl, rfl⟩
  by_cases h1 : (cutS n).size ≤ 100
  · have h3 : (decide (((cutS n).size : Int) ≤ 100)) = true := decide_eq_true (by omega)
    by_cases h2 : d.size ≤ 100
    · have h4 : (decide ((d.size : Int) ≤ 100)) = true := decide_eq_true (by omega)
      have hbf : b = false := by rw [← HB.out]; unfold longB; rw [decide_eq_false (by omega), decide_eq_false (by omega)]; rfl
      go_wp2
      go_ret
      exact ⟨by rw [hbf]; rfl, by go_grown⟩
    · have h4 : (decide ((d.size : Int) ≤ 100)) = false := decide_eq_false (by omega)
      have hbf : b = true := by rw [← HB.out]; unfold longB; rw [decide_eq_true (show 100 < d.size by omega)]; simp
      go_wp2
      go_ret
      exact ⟨by rw [hbf]; rfl, by go_grown⟩
  · have h3 : (decide (((cutS n).size : Int) ≤ 100)) = false := decide_eq_false (by omega)
    have hbf : b = true := by rw [← HB.out]; unfold longB; rw [decide_eq_true (show 100 < (cutS n).size by omega)]; simp
    go_wp2
    go_ret
    exact ⟨by rw [hbf]; rfl, by go_grown⟩
theorem fits1 : Fits 1 := fits_int (n := 1) (by decide)
theorem whole1 (w : World) (ht : Tab w) : Calls Tryz.prog 26 #[.int .i64 1] w (RtP w 1) := mWholeQ 1 (by decide) (by decide) w ht
set_option maxRecDepth 100000 in
set_option maxHeartbeats 8000000 in
theorem isMiss_at (n d : ByteArray) (hn : n.size ≤ maxLen) (hd : d.size ≤ maxLen) (w : World) (ht : Tab w) : Calls Tryz.prog 38 #[.agg #[.string n, .string d]] w (FPost w (missF n d)) := by
  go_enter Tryz.func38, Tryz.ntmps38
  have HT0 := Lib.hid ht
  clear ht
  go_upto_region 1 with (fail)
  refine wp_box1 fun w1' hsz hbW hA0 => ?_
  clear hsz
  have HB_r := Lib.hid hA0
  have HW := Lib.hid hbW
  clear hbW hA0
  have c_r_0 : w1'.cell? ⟨w.heap.size, 0, none⟩ = some (.string n) := HB_r.out.2 0
  have c_r_1 : w1'.cell? ⟨w.heap.size, 1, none⟩ = some (.string d) := HB_r.out.2 1
  go_wp2_with fail
  refine (refCheck_at n d hn hd w1' (HT0.out.ext HW.out)).mono ?_
  rintro e w2' ⟨rfl, hbz⟩
  replace HB_r := Lib.hid (HB_r.out.ext hbz)
  replace HW := Lib.hid (ext_trans HW.out hbz)
  clear c_r_0 c_r_1
  clear hbz
  by_cases hf : rF n d = 0
  · have hne : (rF n d != 0) = false := by simp [hf]
    obtain ⟨q, hq, hrq, rfl, rfl⟩ := show_parts hf
    have HF := Lib.hid hq
    clear hq
    have HM : Hid (missF (showN q) (showD q) = if okM q = false then 1 else if longB (showN q) (showD q) = true then 2 else 0) := Lib.hid (by unfold missF; rw [if_neg (fun h => h hf), hrq])
    clear hf hrq
    generalize missF (showN q) (showD q) = mf at *
    by_cases h0 : 0 < q
    · by_cases h1 : q < 1
      · have HL0 : Hid (decide (0 < q) = true) := Lib.hid (decide_eq_true h0)
        have HL1 : Hid (decide (q < 1) = true) := Lib.hid (decide_eq_true h1)
        have HO : Hid (okM q = true) := Lib.hid (by rw [okM_is, HL0.out, HL1.out]; rfl)
        clear h0 h1
        go_upto_region 4 with (fail)
        have c_r_0 : w2'.cell? ⟨w.heap.size, 0, none⟩ = some (.string (showN q)) := HB_r.out.2 0
        have c_r_1 : w2'.cell? ⟨w.heap.size, 1, none⟩ = some (.string (showD q)) := HB_r.out.2 1
        refine Grow.wp_region_grow 9 [TP.eq (rtV (0)), TP.eq (rtV (q)), TP.eq (.bool true), TP.eq (.bool false), TP.eq (.bool false), TP.eq (rtV (q)), TP.eq (rtV (1)), TP.eq (.bool true), TP.eq (.bool false)] [[], [], [0, 1], [2], [3], [4], [4], [4, 5, 6], [4, 7]] (by kernel_rfl) (by kernel_rfl) ⟨?o0a, ?o1a, ?o2a, ?o3a, ?o4a, ?o5a, ?o6a, ?o7a, ?o8a, trivial⟩ ?_
        case o0a =>
          intro w' hb
          show wpList _ _ _ _ _ _
          go_wp2_with fail
          refine (whole0 w' (HT0.out.ext (ext_trans HW.out hb))).mono ?_
          rintro e wz ⟨rfl, hbz⟩
          go_wp2
          exact ⟨rfl, hbz, rfl⟩
        case o1a =>
          intro w' hb
          have c_r_0' : w'.cell? ⟨w.heap.size, 0, none⟩ = some (.string (showN q)) := (hb.cell (World.block_lt_of_cell? _ _ c_r_0)).trans c_r_0
          have c_r_1' : w'.cell? ⟨w.heap.size, 1, none⟩ = some (.string (showD q)) := (hb.cell (World.block_lt_of_cell? _ _ c_r_1)).trans c_r_1
          show wpList _ _ _ _ _ _
          go_wp2
          exact ⟨rfl, Below.refl _ _, rfl⟩
        case o2a =>
          intro w' hb v1 hv1 v2 hv2
          obtain rfl : v1 = _ := hv1
          obtain rfl : v2 = _ := hv2
          show wpList _ _ _ _ _ _
          simp only [Grow.dstOf, List.getElem?_toArray, List.getElem?_cons_succ, List.getElem?_cons_zero, Option.bind_some, Act.put, List.setIfInBounds_toArray, List.set_cons_succ, List.set_cons_zero]
          go_wp2_with fail
          refine (less_is 0 q true HL0.out fits0 HF.out w' (HT0.out.ext (ext_trans HW.out hb))).mono ?_
          rintro e wz ⟨rfl, hbz⟩
          go_wp2
          exact ⟨rfl, hbz, rfl⟩
        case o3a =>
          intro w' hb v1 hv1
          obtain rfl : v1 = _ := hv1
          show wpList _ _ _ _ _ _
          simp only [Grow.dstOf, List.getElem?_toArray, List.getElem?_cons_succ, List.getElem?_cons_zero, Option.bind_some, Act.put, List.setIfInBounds_toArray, List.set_cons_succ, List.set_cons_zero]
          go_wp2
          exact ⟨rfl, Below.refl _ _, rfl⟩
        case o4a =>
          intro w' hb v1 hv1
          obtain rfl : v1 = _ := hv1
          show wpList _ _ _ _ _ _
          simp only [Grow.dstOf, List.getElem?_toArray, List.getElem?_cons_succ, List.getElem?_cons_zero, Option.bind_some, Act.put, List.setIfInBounds_toArray, List.set_cons_succ, List.set_cons_zero]
          go_wp2
          exact ⟨rfl, Below.refl _ _, rfl⟩
        case o5a =>
          intro w' hb v1 hv1
          obtain rfl : v1 = _ := hv1
          have c_r_0' : w'.cell? ⟨w.heap.size, 0, none⟩ = some (.string (showN q)) := (hb.cell (World.block_lt_of_cell? _ _ c_r_0)).trans c_r_0
          have c_r_1' : w'.cell? ⟨w.heap.size, 1, none⟩ = some (.string (showD q)) := (hb.cell (World.block_lt_of_cell? _ _ c_r_1)).trans c_r_1
          show wpList _ _ _ _ _ _
          simp only [Grow.dstOf, List.getElem?_toArray, List.getElem?_cons_succ, List.getElem?_cons_zero, Option.bind_some, Act.put, List.setIfInBounds_toArray, List.set_cons_succ, List.set_cons_zero]
          go_wp2
          exact ⟨rfl, Below.refl _ _, rfl⟩
        case o6a =>
          intro w' hb v1 hv1
          obtain rfl : v1 = _ := hv1
          show wpList _ _ _ _ _ _
          simp only [Grow.dstOf, List.getElem?_toArray, List.getElem?_cons_succ, List.getElem?_cons_zero, Option.bind_some, Act.put, List.setIfInBounds_toArray, List.set_cons_succ, List.set_cons_zero]
          go_wp2_with fail
          refine (whole1 w' (HT0.out.ext (ext_trans HW.out hb))).mono ?_
          rintro e wz ⟨rfl, hbz⟩
          go_wp2
          exact ⟨rfl, hbz, rfl⟩
        case o7a =>
          intro w' hb v1 hv1 v2 hv2 v3 hv3
          obtain rfl : v1 = _ := hv1
          obtain rfl : v2 = _ := hv2
          obtain rfl : v3 = _ := hv3
          show wpList _ _ _ _ _ _
          simp only [Grow.dstOf, List.getElem?_toArray, List.getElem?_cons_succ, List.getElem?_cons_zero, Option.bind_some, Act.put, List.setIfInBounds_toArray, List.set_cons_succ, List.set_cons_zero]
          go_wp2_with fail
          refine (less_is q 1 true HL1.out HF.out fits1 w' (HT0.out.ext (ext_trans HW.out hb))).mono ?_
          rintro e wz ⟨rfl, hbz⟩
          go_wp2
          exact ⟨rfl, hbz, rfl⟩
        case o8a =>
          intro w' hb v1 hv1 v2 hv2
          obtain rfl : v1 = _ := hv1
          obtain rfl : v2 = _ := hv2
          show wpList _ _ _ _ _ _
          simp only [Grow.dstOf, List.getElem?_toArray, List.getElem?_cons_succ, List.getElem?_cons_zero, Option.bind_some, Act.put, List.setIfInBounds_toArray, List.set_cons_succ, List.set_cons_zero]
          go_wp2
          exact ⟨rfl, Below.refl _ _, rfl⟩
        intro w3' hbz u0 hu0 u1 hu1 u2 hu2 u3 hu3 u4 hu4 u5 hu5 u6 hu6 u7 hu7 u8 hu8
        obtain rfl : u0 = _ := hu0
        obtain rfl : u1 = _ := hu1
        obtain rfl : u2 = _ := hu2
        obtain rfl : u3 = _ := hu3
        obtain rfl : u4 = _ := hu4
        obtain rfl : u5 = _ := hu5
        obtain rfl : u6 = _ := hu6
        obtain rfl : u7 = _ := hu7
        obtain rfl : u8 = _ := hu8
        replace HB_r := Lib.hid (HB_r.out.ext hbz)
        replace HW := Lib.hid (ext_trans HW.out hbz)
        clear c_r_0 c_r_1
        clear hbz
        show wpList _ _ _ _ _ _
        simp only [Act.put, List.setIfInBounds_toArray, List.set_cons_succ, List.set_cons_zero]
        have c_r_0 : w3'.cell? ⟨w.heap.size, 0, none⟩ = some (.string (showN q)) := HB_r.out.2 0
        have c_r_1 : w3'.cell? ⟨w.heap.size, 1, none⟩ = some (.string (showD q)) := HB_r.out.2 1
        by_cases hl : longB (showN q) (showD q) = true
        · have HLB := Lib.hid hl
          clear hl
          go_wp2_with fail
          refine (isShort_at (showN q) (showD q) hn hd w3').mono ?_
          rintro e w4' ⟨rfl, hbz⟩
          rw [HLB.out]
          replace HB_r := Lib.hid (HB_r.out.ext hbz)
          replace HW := Lib.hid (ext_trans HW.out hbz)
          clear c_r_0 c_r_1
          clear hbz
          go_wp2
          go_ret
          exact ⟨ret_int (by rw [HM.out, HO.out, if_neg (by decide), if_pos HLB.out]), HW.out⟩
        · have hl' : longB (showN q) (showD q) = false := by simpa using hl
          have HLB := Lib.hid hl'
          clear hl hl'
          go_wp2_with fail
          refine (isShort_at (showN q) (showD q) hn hd w3').mono ?_
          rintro e w4' ⟨rfl, hbz⟩
          rw [HLB.out]
          replace HB_r := Lib.hid (HB_r.out.ext hbz)
          replace HW := Lib.hid (ext_trans HW.out hbz)
          clear c_r_0 c_r_1
          clear hbz
          go_wp2
          go_ret
          exact ⟨ret_int (by rw [HM.out, HO.out, if_neg (by decide), HLB.out, if_neg (by decide)]), HW.out⟩
      · have HL0 : Hid (decide (0 < q) = true) := Lib.hid (decide_eq_true h0)
        have HL1 : Hid (decide (q < 1) = false) := Lib.hid (decide_eq_false h1)
        have HO : Hid (okM q = false) := Lib.hid (by rw [okM_is, HL0.out, HL1.out]; rfl)
        clear h0 h1
        go_upto_region 4 with (fail)
        have c_r_0 : w2'.cell? ⟨w.heap.size, 0, none⟩ = some (.string (showN q)) := HB_r.out.2 0
        have c_r_1 : w2'.cell? ⟨w.heap.size, 1, none⟩ = some (.string (showD q)) := HB_r.out.2 1
        refine Grow.wp_region_grow 9 [TP.eq (rtV (0)), TP.eq (rtV (q)), TP.eq (.bool true), TP.eq (.bool false), TP.eq (.bool false), TP.eq (rtV (q)), TP.eq (rtV (1)), TP.eq (.bool false), TP.eq (.bool true)] [[], [], [0, 1], [2], [3], [4], [4], [4, 5, 6], [4, 7]] (by kernel_rfl) (by kernel_rfl) ⟨?o0b, ?o1b, ?o2b, ?o3b, ?o4b, ?o5b, ?o6b, ?o7b, ?o8b, trivial⟩ ?_
        case o0b =>
          intro w' hb
          show wpList _ _ _ _ _ _
          go_wp2_with fail
          refine (whole0 w' (HT0.out.ext (ext_trans HW.out hb))).mono ?_
          rintro e wz ⟨rfl, hbz⟩
          go_wp2
          exact ⟨rfl, hbz, rfl⟩
        case o1b =>
          intro w' hb
          have c_r_0' : w'.cell? ⟨w.heap.size, 0, none⟩ = some (.string (showN q)) := (hb.cell (World.block_lt_of_cell? _ _ c_r_0)).trans c_r_0
          have c_r_1' : w'.cell? ⟨w.heap.size, 1, none⟩ = some (.string (showD q)) := (hb.cell (World.block_lt_of_cell? _ _ c_r_1)).trans c_r_1
          show wpList _ _ _ _ _ _
          go_wp2
          exact ⟨rfl, Below.refl _ _, rfl⟩
        case o2b =>
          intro w' hb v1 hv1 v2 hv2
          obtain rfl : v1 = _ := hv1
          obtain rfl : v2 = _ := hv2
          show wpList _ _ _ _ _ _
          simp only [Grow.dstOf, List.getElem?_toArray, List.getElem?_cons_succ, List.getElem?_cons_zero, Option.bind_some, Act.put, List.setIfInBounds_toArray, List.set_cons_succ, List.set_cons_zero]
          go_wp2_with fail
          refine (less_is 0 q true HL0.out fits0 HF.out w' (HT0.out.ext (ext_trans HW.out hb))).mono ?_
          rintro e wz ⟨rfl, hbz⟩
          go_wp2
          exact ⟨rfl, hbz, rfl⟩
        case o3b =>
          intro w' hb v1 hv1
          obtain rfl : v1 = _ := hv1
          show wpList _ _ _ _ _ _
          simp only [Grow.dstOf, List.getElem?_toArray, List.getElem?_cons_succ, List.getElem?_cons_zero, Option.bind_some, Act.put, List.setIfInBounds_toArray, List.set_cons_succ, List.set_cons_zero]
          go_wp2
          exact ⟨rfl, Below.refl _ _, rfl⟩
        case o4b =>
          intro w' hb v1 hv1
          obtain rfl : v1 = _ := hv1
          show wpList _ _ _ _ _ _
          simp only [Grow.dstOf, List.getElem?_toArray, List.getElem?_cons_succ, List.getElem?_cons_zero, Option.bind_some, Act.put, List.setIfInBounds_toArray, List.set_cons_succ, List.set_cons_zero]
          go_wp2
          exact ⟨rfl, Below.refl _ _, rfl⟩
        case o5b =>
          intro w' hb v1 hv1
          obtain rfl : v1 = _ := hv1
          have c_r_0' : w'.cell? ⟨w.heap.size, 0, none⟩ = some (.string (showN q)) := (hb.cell (World.block_lt_of_cell? _ _ c_r_0)).trans c_r_0
          have c_r_1' : w'.cell? ⟨w.heap.size, 1, none⟩ = some (.string (showD q)) := (hb.cell (World.block_lt_of_cell? _ _ c_r_1)).trans c_r_1
          show wpList _ _ _ _ _ _
          simp only [Grow.dstOf, List.getElem?_toArray, List.getElem?_cons_succ, List.getElem?_cons_zero, Option.bind_some, Act.put, List.setIfInBounds_toArray, List.set_cons_succ, List.set_cons_zero]
          go_wp2
          exact ⟨rfl, Below.refl _ _, rfl⟩
        case o6b =>
          intro w' hb v1 hv1
          obtain rfl : v1 = _ := hv1
          show wpList _ _ _ _ _ _
          simp only [Grow.dstOf, List.getElem?_toArray, List.getElem?_cons_succ, List.getElem?_cons_zero, Option.bind_some, Act.put, List.setIfInBounds_toArray, List.set_cons_succ, List.set_cons_zero]
          go_wp2_with fail
          refine (whole1 w' (HT0.out.ext (ext_trans HW.out hb))).mono ?_
          rintro e wz ⟨rfl, hbz⟩
          go_wp2
          exact ⟨rfl, hbz, rfl⟩
        case o7b =>
          intro w' hb v1 hv1 v2 hv2 v3 hv3
          obtain rfl : v1 = _ := hv1
          obtain rfl : v2 = _ := hv2
          obtain rfl : v3 = _ := hv3
          show wpList _ _ _ _ _ _
          simp only [Grow.dstOf, List.getElem?_toArray, List.getElem?_cons_succ, List.getElem?_cons_zero, Option.bind_some, Act.put, List.setIfInBounds_toArray, List.set_cons_succ, List.set_cons_zero]
          go_wp2_with fail
          refine (less_is q 1 false HL1.out HF.out fits1 w' (HT0.out.ext (ext_trans HW.out hb))).mono ?_
          rintro e wz ⟨rfl, hbz⟩
          go_wp2
          exact ⟨rfl, hbz, rfl⟩
        case o8b =>
          intro w' hb v1 hv1 v2 hv2
          obtain rfl : v1 = _ := hv1
          obtain rfl : v2 = _ := hv2
          show wpList _ _ _ _ _ _
          simp only [Grow.dstOf, List.getElem?_toArray, List.getElem?_cons_succ, List.getElem?_cons_zero, Option.bind_some, Act.put, List.setIfInBounds_toArray, List.set_cons_succ, List.set_cons_zero]
          go_wp2
          exact ⟨rfl, Below.refl _ _, rfl⟩
        intro w3' hbz u0 hu0 u1 hu1 u2 hu2 u3 hu3 u4 hu4 u5 hu5 u6 hu6 u7 hu7 u8 hu8
        obtain rfl : u0 = _ := hu0
        obtain rfl : u1 = _ := hu1
        obtain rfl : u2 = _ := hu2
        obtain rfl : u3 = _ := hu3
        obtain rfl : u4 = _ := hu4
        obtain rfl : u5 = _ := hu5
        obtain rfl : u6 = _ := hu6
        obtain rfl : u7 = _ := hu7
        obtain rfl : u8 = _ := hu8
        replace HB_r := Lib.hid (HB_r.out.ext hbz)
        replace HW := Lib.hid (ext_trans HW.out hbz)
        clear c_r_0 c_r_1
        clear hbz
        show wpList _ _ _ _ _ _
        simp only [Act.put, List.setIfInBounds_toArray, List.set_cons_succ, List.set_cons_zero]
        go_wp2
        go_ret
        exact ⟨ret_int (by rw [HM.out, HO.out, if_pos rfl]), HW.out⟩
    · have HL0 : Hid (decide (0 < q) = false) := Lib.hid (decide_eq_false h0)
      have HO : Hid (okM q = false) := Lib.hid (by rw [okM_is, HL0.out]; rfl)
      clear h0
      go_upto_region 4 with (fail)
      have c_r_0 : w2'.cell? ⟨w.heap.size, 0, none⟩ = some (.string (showN q)) := HB_r.out.2 0
      have c_r_1 : w2'.cell? ⟨w.heap.size, 1, none⟩ = some (.string (showD q)) := HB_r.out.2 1
      refine Grow.wp_region_grow 9 [TP.eq (rtV (0)), TP.eq (rtV (q)), TP.eq (.bool false), TP.eq (.bool true), TP.eq (.bool true), TP.eq undef, TP.eq undef, TP.eq undef, TP.eq undef] [[], [], [0, 1], [2], [3], [4], [4], [4, 5, 6], [4, 7]] (by kernel_rfl) (by kernel_rfl) ⟨?o0c, ?o1c, ?o2c, ?o3c, ?o4c, ?o5c, ?o6c, ?o7c, ?o8c, trivial⟩ ?_
      case o0c =>
        intro w' hb
        show wpList _ _ _ _ _ _
        go_wp2_with fail
        refine (whole0 w' (HT0.out.ext (ext_trans HW.out hb))).mono ?_
        rintro e wz ⟨rfl, hbz⟩
        go_wp2
        exact ⟨rfl, hbz, rfl⟩
      case o1c =>
        intro w' hb
        have c_r_0' : w'.cell? ⟨w.heap.size, 0, none⟩ = some (.string (showN q)) := (hb.cell (World.block_lt_of_cell? _ _ c_r_0)).trans c_r_0
        have c_r_1' : w'.cell? ⟨w.heap.size, 1, none⟩ = some (.string (showD q)) := (hb.cell (World.block_lt_of_cell? _ _ c_r_1)).trans c_r_1
        show wpList _ _ _ _ _ _
        go_wp2
        exact ⟨rfl, Below.refl _ _, rfl⟩
      case o2c =>
        intro w' hb v1 hv1 v2 hv2
        obtain rfl : v1 = _ := hv1
        obtain rfl : v2 = _ := hv2
        show wpList _ _ _ _ _ _
        simp only [Grow.dstOf, List.getElem?_toArray, List.getElem?_cons_succ, List.getElem?_cons_zero, Option.bind_some, Act.put, List.setIfInBounds_toArray, List.set_cons_succ, List.set_cons_zero]
        go_wp2_with fail
        refine (less_is 0 q false HL0.out fits0 HF.out w' (HT0.out.ext (ext_trans HW.out hb))).mono ?_
        rintro e wz ⟨rfl, hbz⟩
        go_wp2
        exact ⟨rfl, hbz, rfl⟩
      case o3c =>
        intro w' hb v1 hv1
        obtain rfl : v1 = _ := hv1
        show wpList _ _ _ _ _ _
        simp only [Grow.dstOf, List.getElem?_toArray, List.getElem?_cons_succ, List.getElem?_cons_zero, Option.bind_some, Act.put, List.setIfInBounds_toArray, List.set_cons_succ, List.set_cons_zero]
        go_wp2
        exact ⟨rfl, Below.refl _ _, rfl⟩
      case o4c =>
        intro w' hb v1 hv1
        obtain rfl : v1 = _ := hv1
        show wpList _ _ _ _ _ _
        simp only [Grow.dstOf, List.getElem?_toArray, List.getElem?_cons_succ, List.getElem?_cons_zero, Option.bind_some, Act.put, List.setIfInBounds_toArray, List.set_cons_succ, List.set_cons_zero]
        go_wp2
        exact ⟨rfl, Below.refl _ _, rfl⟩
      case o5c =>
        intro w' hb v1 hv1
        obtain rfl : v1 = _ := hv1
        show wpList _ _ _ _ _ _
        simp only [Grow.dstOf, List.getElem?_toArray, List.getElem?_cons_succ, List.getElem?_cons_zero, Option.bind_some, Act.put, List.setIfInBounds_toArray, List.set_cons_succ, List.set_cons_zero]
        go_wp2
        exact ⟨rfl, Below.refl _ _, rfl⟩
      case o6c =>
        intro w' hb v1 hv1
        obtain rfl : v1 = _ := hv1
        show wpList _ _ _ _ _ _
        simp only [Grow.dstOf, List.getElem?_toArray, List.getElem?_cons_succ, List.getElem?_cons_zero, Option.bind_some, Act.put, List.setIfInBounds_toArray, List.set_cons_succ, List.set_cons_zero]
        go_wp2
        exact ⟨rfl, Below.refl _ _, rfl⟩
      case o7c =>
        intro w' hb v1 hv1 v2 hv2 v3 hv3
        obtain rfl : v1 = _ := hv1
        obtain rfl : v2 = _ := hv2
        obtain rfl : v3 = _ := hv3
        show wpList _ _ _ _ _ _
        simp only [Grow.dstOf, List.getElem?_toArray, List.getElem?_cons_succ, List.getElem?_cons_zero, Option.bind_some, Act.put, List.setIfInBounds_toArray, List.set_cons_succ, List.set_cons_zero]
        go_wp2
        exact ⟨rfl, Below.refl _ _, rfl⟩
      case o8c =>
        intro w' hb v1 hv1 v2 hv2
        obtain rfl : v1 = _ := hv1
        obtain rfl : v2 = _ := hv2
        show wpList _ _ _ _ _ _
        simp only [Grow.dstOf, List.getElem?_toArray, List.getElem?_cons_succ, List.getElem?_cons_zero, Option.bind_some, Act.put, List.setIfInBounds_toArray, List.set_cons_succ, List.set_cons_zero]
        go_wp2
        exact ⟨rfl, Below.refl _ _, rfl⟩
      intro w3' hbz u0 hu0 u1 hu1 u2 hu2 u3 hu3 u4 hu4 u5 hu5 u6 hu6 u7 hu7 u8 hu8
      obtain rfl : u0 = _ := hu0
      obtain rfl : u1 = _ := hu1
      obtain rfl : u2 = _ := hu2
      obtain rfl : u3 = _ := hu3
      obtain rfl : u4 = _ := hu4
      obtain rfl : u5 = _ := hu5
      obtain rfl : u6 = _ := hu6
      obtain rfl : u7 = _ := hu7
      obtain rfl : u8 = _ := hu8
      replace HB_r := Lib.hid (HB_r.out.ext hbz)
      replace HW := Lib.hid (ext_trans HW.out hbz)
      clear c_r_0 c_r_1
      clear hbz
      show wpList _ _ _ _ _ _
      simp only [Act.put, List.setIfInBounds_toArray, List.set_cons_succ, List.set_cons_zero]
      go_wp2
      go_ret
      exact ⟨ret_int (by rw [HM.out, HO.out, if_pos rfl]), HW.out⟩
  · have hne : (rF n d != 0) = true := by simp [hf]
    have HM : Hid (missF n d = rF n d) := Lib.hid (by unfold missF; rw [if_pos hf])
    clear hf
    go_wp2
    go_ret
    exact ⟨ret_int HM.out.symm, HW.out⟩
end Nt
end Go.Proofs.YtemenlcigengeaaGreatDoor
