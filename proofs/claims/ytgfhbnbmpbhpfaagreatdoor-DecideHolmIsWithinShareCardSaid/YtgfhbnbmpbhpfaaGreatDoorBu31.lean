/- IsShort, IsMiss, CheckTest, enough of the references. Printed by gen_rdec.py. Plain: the evidence as a number: it starts at 1, is never below 0, and a pair leaves it as it is on average. What a right miss is; a test is decided just where the reference says so. Several evidences: what is right, in plain words. Several new blocks at once, each of which may be written. No program stands in it. Decimal of package value. Printed by gen_dec.py. -/
import Derived.Test.YtgfhbnbmpbhpfaaGreatDoorBu30
import Derived.Test.YtgfhbnbmpbhpfaaGreatDoorBu14
import Derived.Test.YtgfhbnbmpbhpfaaGreatDoorBu12
import Derived.Test.YtgfhbnbmpbhpfaaGreatDoorBu15
import Derived.Test.YtgfhbnbmpbhpfaaGreatDoorBu00
import Derived.Test.YtgfhbnbmpbhpfaaGreatDoorBu25
import Derived.Test.YtgfhbnbmpbhpfaaGreatDoorBu23
import Derived.Test.YtgfhbnbmpbhpfaaGreatDoorBu21
namespace Go.Proofs.YtgfhbnbmpbhpfaaGreatDoor
open Go.RowKit
namespace Nt
open _root_.Go.Proofs.YtgfhbnbmpbhpfaaGreatDoor.Nm (showN showD Fits show_size show_back rF rQ cutS cutS_size longB okM missF testF cmpQ cmpQ_m1 trimPrefix_at fits_int FPost)
theorem show_parts {n d : ByteArray} (h : rF n d = 0) : ∃ q, Fits q ∧ rQ n d = q ∧ n = showN q ∧ d = showD q := by
  obtain ⟨h1, h2, h3⟩ := show_back h
  exact ⟨rQ n d, h3, rfl, h1.symm, h2.symm⟩
theorem rat_pos {q : Rat} : 0 < q.num ↔ 0 < q := by
  rw [Rat.lt_iff]
  simp
theorem okM_is (q : Rat) : okM q = (decide (0 < q) && decide (q < 1)) := by
  unfold okM
  have e1 : decide (0 < q.num) = decide (0 < q) := by
    by_cases h : 0 < q
    · rw [decide_eq_true h, decide_eq_true (rat_pos.2 h)]
    · rw [decide_eq_false h, decide_eq_false (fun h' => h (rat_pos.1 h'))]
  have e2 : decide (cmpQ q ((1 : Int) : Rat) = -1) = decide (q < 1) := by
    show decide (cmpQ q 1 = -1) = decide (q < 1)
    by_cases h : q < 1
    · rw [decide_eq_true h, decide_eq_true (cmpQ_m1.2 h)]
    · rw [decide_eq_false h, decide_eq_false (fun h' => h (cmpQ_m1.1 h'))]
  rw [e1, e2]
set_option maxHeartbeats 4000000 in
theorem isShort_at (n d : ByteArray) (hn : n.size ≤ maxLen) (hd : d.size ≤ maxLen) (w : World) : Calls Tryz.prog 141 #[.agg #[.string n, .string d]] w (fun e w' => e = .returned (.bool (!longB n d)) ∧ Below w.heap.size w w') := by
  have hc := cutS_size n
  have hn' := hn
  have hd' := hd
  unfold maxLen at hn' hd'
  obtain ⟨b, hb⟩ : ∃ b, longB n d = b := ⟨_, rfl⟩
  have HB : Hid (longB n d = b) := Lib.hid hb
  rw [hb]
  clear hb
  go_enter Tryz.func141, Tryz.ntmps141
  go_wp2_with fail
  refine (trimPrefix_at n hn _).mono ?_
  rintro e w' ⟨rfl, rfl⟩
  by_cases h1 : (cutS n).size ≤ 100
  · have h3 : (decide (((cutS n).size : Int) ≤ 100)) = true := decide_eq_true (by omega)
    by_cases h2 : d.size ≤ 100
    · have h4 : (decide ((d.size : Int) ≤ 100)) = true := decide_eq_true (by omega)
      have hbf : b = false := by rw [← HB.out]; unfold longB; rw [decide_eq_false (by omega), decide_eq_false (by omega)]; rfl
      go_wp2
      go_ret
      exact ⟨by rw [hbf]; rfl, by go_grown⟩
    · have h4 : (decide ((d.size : Int) ≤ 100)) = false := decide_eq_false (by omega)
      have hbf : b = true := by rw [← HB.out]; unfold longB; rw [decide_eq_true (show 100 < d.size by omega)]; simp
      go_wp2
      go_ret
      exact ⟨by rw [hbf]; rfl, by go_grown⟩
  · have h3 : (decide (((cutS n).size : Int) ≤ 100)) = false := decide_eq_false (by omega)
    have hbf : b = true := by rw [← HB.out]; unfold longB; rw [decide_eq_true (show 100 < (cutS n).size by omega)]; simp
    go_wp2
    go_ret
    exact ⟨by rw [hbf]; rfl, by go_grown⟩
theorem less_is (p q : Rat) (b : Bool) (h : decide (p < q) = b) (hp : Fits p) (hq : Fits q) (w : World) (ht : Tab w) : Calls Tryz.prog 35 #[rtV p, rtV q] w (fun e w' => e = .returned (.bool b) ∧ Below w.heap.size w w') := by subst h; exact mLessQ p q hp hq w ht
theorem fits0 : Fits 0 := fits_int (n := 0) (by decide)
theorem fits1 : Fits 1 := fits_int (n := 1) (by decide)
theorem whole0 (w : World) (ht : Tab w) : Calls Tryz.prog 37 #[.int .i64 0] w (RtP w 0) := mWholeQ 0 (by decide) (by decide) w ht
theorem whole1 (w : World) (ht : Tab w) : Calls Tryz.prog 37 #[.int .i64 1] w (RtP w 1) := mWholeQ 1 (by decide) (by decide) w ht
set_option maxRecDepth 100000 in
set_option maxHeartbeats 8000000 in
theorem isMiss_at (n d : ByteArray) (hn : n.size ≤ maxLen) (hd : d.size ≤ maxLen) (w : World) (ht : Tab w) : Calls Tryz.prog 79 #[.agg #[.string n, .string d]] w (FPost w (missF n d)) := by
  go_enter Tryz.func79, Tryz.ntmps79
  have HT0 := Lib.hid ht
  clear ht
  go_upto_region 1 with (fail)
  refine wp_box1 fun w1' hsz hbW hA0 => ?_
  clear hsz
  have HB_r := Lib.hid hA0
  have HW := Lib.hid hbW
  clear hbW hA0
  have c_r_0 : w1'.cell? ⟨w.heap.size, 0, none⟩ = some (.string n) := HB_r.out.2 0
  have c_r_1 : w1'.cell? ⟨w.heap.size, 1, none⟩ = some (.string d) := HB_r.out.2 1
  go_wp2_with fail
  refine (refCheck_at n d hn hd w1' (HT0.out.ext HW.out)).mono ?_
  rintro e w2' ⟨rfl, hbz⟩
  replace HB_r := Lib.hid (HB_r.out.ext hbz)
  replace HW := Lib.hid (ext_trans HW.out hbz)
  clear c_r_0 c_r_1
  clear hbz
  by_cases hf : rF n d = 0
  · have hne : (rF n d != 0) = false := by simp [hf]
    obtain ⟨q, hq, hrq, rfl, rfl⟩ := show_parts hf
    have HF := Lib.hid hq
    clear hq
    have HM : Hid (missF (showN q) (showD q) = if okM q = false then 1 else if longB (showN q) (showD q) = true then 2 else 0) := Lib.hid (by unfold missF; rw [if_neg (fun h => h hf), hrq])
    clear hf hrq
    generalize missF (showN q) (showD q) = mf at *
    by_cases h0 : 0 < q
    · by_cases h1 : q < 1
      · have HL0 : Hid (decide (0 < q) = true) := Lib.hid (decide_eq_true h0)
        have HL1 : Hid (decide (q < 1) = true) := Lib.hid (decide_eq_true h1)
        have HO : Hid (okM q = true) := Lib.hid (by rw [okM_is, HL0.out, HL1.out]; rfl)
        clear h0 h1
        go_upto_region 4 with (fail)
        have c_r_0 : w2'.cell? ⟨w.heap.size, 0, none⟩ = some (.string (showN q)) := HB_r.out.2 0
        have c_r_1 : w2'.cell? ⟨w.heap.size, 1, none⟩ = some (.string (showD q)) := HB_r.out.2 1
        refine Grow.wp_region_grow 9 [TP.eq (rtV (0)), TP.eq (rtV (q)), TP.eq (.bool true), TP.eq (.bool false), TP.eq (.bool false), TP.eq (rtV (q)), TP.eq (rtV (1)), TP.eq (.bool true), TP.eq (.bool false)] [[], [], [0, 1], [2], [3], [4], [4], [4, 5, 6], [4, 7]] (by kernel_rfl) (by kernel_rfl) ⟨?o0a, ?o1a, ?o2a, ?o3a, ?o4a, ?o5a, ?o6a, ?o7a, ?o8a, trivial⟩ ?_
        case o0a =>
          intro w' hb
          show wpList _ _ _ _ _ _
          go_wp2_with fail
          refine (whole0 w' (HT0.out.ext (ext_trans HW.out hb))).mono ?_
          rintro e wz ⟨rfl, hbz⟩
          go_wp2
          exact ⟨rfl, hbz, rfl⟩
        case o1a =>
          intro w' hb
          have c_r_0' : w'.cell? ⟨w.heap.size, 0, none⟩ = some (.string (showN q)) := (hb.cell (World.block_lt_of_cell? _ _ c_r_0)).trans c_r_0
          have c_r_1' : w'.cell? ⟨w.heap.size, 1, none⟩ = some (.string (showD q)) := (hb.cell (World.block_lt_of_cell? _ _ c_r_1)).trans c_r_1
          show wpList _ _ _ _ _ _
          go_wp2
          exact ⟨rfl, Below.refl _ _, rfl⟩
        case o2a =>
          intro w' hb v1 hv1 v2 hv2
          obtain rfl : v1 = _ := hv1
          obtain rfl : v2 = _ := hv2
          show wpList _ _ _ _ _ _
          simp only [Grow.dstOf, List.getElem?_toArray, List.getElem?_cons_succ, List.getElem?_cons_zero, Option.bind_some, Act.put, List.setIfInBounds_toArray, List.set_cons_succ, List.set_cons_zero]
          go_wp2_with fail
          refine (less_is 0 q true HL0.out fits0 HF.out w' (HT0.out.ext (ext_trans HW.out hb))).mono ?_
          rintro e wz ⟨rfl, hbz⟩
          go_wp2
          exact ⟨rfl, hbz, rfl⟩
        case o3a =>
          intro w' hb v1 hv1
          obtain rfl : v1 = _ := hv1
          show wpList _ _ _ _ _ _
          simp only [Grow.dstOf, List.getElem?_toArray, List.getElem?_cons_succ, List.getElem?_cons_zero, Option.bind_some, Act.put, List.setIfInBounds_toArray, List.set_cons_succ, List.set_cons_zero]
          go_wp2
          exact ⟨rfl, Below.refl _ _, rfl⟩
        case o4a =>
          intro w' hb v1 hv1
          obtain rfl : v1 = _ := hv1
          show wpList _ _ _ _ _ _
          simp only [Grow.dstOf, List.getElem?_toArray, List.getElem?_cons_succ, List.getElem?_cons_zero, Option.bind_some, Act.put, List.setIfInBounds_toArray, List.set_cons_succ, List.set_cons_zero]
          go_wp2
          exact ⟨rfl, Below.refl _ _, rfl⟩
        case o5a =>
          intro w' hb v1 hv1
          obtain rfl : v1 = _ := hv1
          have c_r_0' : w'.cell? ⟨w.heap.size, 0, none⟩ = some (.string (showN q)) := (hb.cell (World.block_lt_of_cell? _ _ c_r_0)).trans c_r_0
          have c_r_1' : w'.cell? ⟨w.heap.size, 1, none⟩ = some (.string (showD q)) := (hb.cell (World.block_lt_of_cell? _ _ c_r_1)).trans c_r_1
          show wpList _ _ _ _ _ _
          simp only [Grow.dstOf, List.getElem?_toArray, List.getElem?_cons_succ, List.getElem?_cons_zero, Option.bind_some, Act.put, List.setIfInBounds_toArray, List.set_cons_succ, List.set_cons_zero]
          go_wp2
          exact ⟨rfl, Below.refl _ _, rfl⟩
        case o6a =>
          intro w' hb v1 hv1
          obtain rfl : v1 = _ := hv1
          show wpList _ _ _ _ _ _
          simp only [Grow.dstOf, List.getElem?_toArray, List.getElem?_cons_succ, List.getElem?_cons_zero, Option.bind_some, Act.put, List.setIfInBounds_toArray, List.set_cons_succ, List.set_cons_zero]
          go_wp2_with fail
          refine (whole1 w' (HT0.out.ext (ext_trans HW.out hb))).mono ?_
          rintro e wz ⟨rfl, hbz⟩
          go_wp2
          exact ⟨rfl, hbz, rfl⟩
        case o7a =>
          intro w' hb v1 hv1 v2 hv2 v3 hv3
          obtain rfl : v1 = _ := hv1
          obtain rfl : v2 = _ := hv2
          obtain rfl : v3 = _ := hv3
          show wpList _ _ _ _ _ _
          simp only [Grow.dstOf, List.getElem?_toArray, List.getElem?_cons_succ, List.getElem?_cons_zero, Option.bind_some, Act.put, List.setIfInBounds_toArray, List.set_cons_succ, List.set_cons_zero]
          go_wp2_with fail
          refine (less_is q 1 true HL1.out HF.out fits1 w' (HT0.out.ext (ext_trans HW.out hb))).mono ?_
          rintro e wz ⟨rfl, hbz⟩
          go_wp2
          exact ⟨rfl, hbz, rfl⟩
        case o8a =>
          intro w' hb v1 hv1 v2 hv2
          obtain rfl : v1 = _ := hv1
          obtain rfl : v2 = _ := hv2
          show wpList _ _ _ _ _ _
          simp only [Grow.dstOf, List.getElem?_toArray, List.getElem?_cons_succ, List.getElem?_cons_zero, Option.bind_some, Act.put, List.setIfInBounds_toArray, List.set_cons_succ, List.set_cons_zero]
          go_wp2
          exact ⟨rfl, Below.refl _ _, rfl⟩
        intro w3' hbz u0 hu0 u1 hu1 u2 hu2 u3 hu3 u4 hu4 u5 hu5 u6 hu6 u7 hu7 u8 hu8
        obtain rfl : u0 = _ := hu0
        obtain rfl : u1 = _ := hu1
        obtain rfl : u2 = _ := hu2
        obtain rfl : u3 = _ := hu3
        obtain rfl : u4 = _ := hu4
        obtain rfl : u5 = _ := hu5
        obtain rfl : u6 = _ := hu6
        obtain rfl : u7 = _ := hu7
        obtain rfl : u8 = _ := hu8
        replace HB_r := Lib.hid (HB_r.out.ext hbz)
        replace HW := Lib.hid (ext_trans HW.out hbz)
        clear c_r_0 c_r_1
        clear hbz
        show wpList _ _ _ _ _ _
        simp only [Act.put, List.setIfInBounds_toArray, List.set_cons_succ, List.set_cons_zero]
        have c_r_0 : w3'.cell? ⟨w.heap.size, 0, none⟩ = some (.string (showN q)) := HB_r.out.2 0
        have c_r_1 : w3'.cell? ⟨w.heap.size, 1, none⟩ = some (.string (showD q)) := HB_r.out.2 1
        by_cases hl : longB (showN q) (showD q) = true
        · have HLB := Lib.hid hl
          clear hl
          go_wp2_with fail
          refine (isShort_at (showN q) (showD q) hn hd w3').mono ?_
          rintro e w4' ⟨rfl, hbz⟩
          rw [HLB.out]
          replace HB_r := Lib.hid (HB_r.out.ext hbz)
          replace HW := Lib.hid (ext_trans HW.out hbz)
          clear c_r_0 c_r_1
          clear hbz
          go_wp2
          go_ret
          exact ⟨ret_int (by rw [HM.out, HO.out, if_neg (by decide), if_pos HLB.out]), HW.out⟩
        · have hl' : longB (showN q) (showD q) = false := by simpa using hl
          have HLB := Lib.hid hl'
          clear hl hl'
          go_wp2_with fail
          refine (isShort_at (showN q) (showD q) hn hd w3').mono ?_
          rintro e w4' ⟨rfl, hbz⟩
          rw [HLB.out]
          replace HB_r := Lib.hid (HB_r.out.ext hbz)
          replace HW := Lib.hid (ext_trans HW.out hbz)
          clear c_r_0 c_r_1
          clear hbz
          go_wp2
          go_ret
          exact ⟨ret_int (by rw [HM.out, HO.out, if_neg (by decide), HLB.out, if_neg (by decide)]), HW.out⟩
      · have HL0 : Hid (decide (0 < q) = true) := Lib.hid (decide_eq_true h0)
        have HL1 : Hid (decide (q < 1) = false) := Lib.hid (decide_eq_false h1)
        have HO : Hid (okM q = false) := Lib.hid (by rw [okM_is, HL0.out, HL1.out]; rfl)
        clear h0 h1
        go_upto_region 4 with (fail)
        have c_r_0 : w2'.cell? ⟨w.heap.size, 0, none⟩ = some (.string (showN q)) := HB_r.out.2 0
        have c_r_1 : w2'.cell? ⟨w.heap.size, 1, none⟩ = some (.string (showD q)) := HB_r.out.2 1
        refine Grow.wp_region_grow 9 [TP.eq (rtV (0)), TP.eq (rtV (q)), TP.eq (.bool true), TP.eq (.bool false), TP.eq (.bool false), TP.eq (rtV (q)), TP.eq (rtV (1)), TP.eq (.bool false), TP.eq (.bool true)] [[], [], [0, 1], [2], [3], [4], [4], [4, 5, 6], [4, 7]] (by kernel_rfl) (by kernel_rfl) ⟨?o0b, ?o1b, ?o2b, ?o3b, ?o4b, ?o5b, ?o6b, ?o7b, ?o8b, trivial⟩ ?_
        case o0b =>
          intro w' hb
          show wpList _ _ _ _ _ _
          go_wp2_with fail
          refine (whole0 w' (HT0.out.ext (ext_trans HW.out hb))).mono ?_
          rintro e wz ⟨rfl, hbz⟩
          go_wp2
          exact ⟨rfl, hbz, rfl⟩
        case o1b =>
          intro w' hb
          have c_r_0' : w'.cell? ⟨w.heap.size, 0, none⟩ = some (.string (showN q)) := (hb.cell (World.block_lt_of_cell? _ _ c_r_0)).trans c_r_0
          have c_r_1' : w'.cell? ⟨w.heap.size, 1, none⟩ = some (.string (showD q)) := (hb.cell (World.block_lt_of_cell? _ _ c_r_1)).trans c_r_1
          show wpList _ _ _ _ _ _
          go_wp2
          exact ⟨rfl, Below.refl _ _, rfl⟩
        case o2b =>
          intro w' hb v1 hv1 v2 hv2
          obtain rfl : v1 = _ := hv1
          obtain rfl : v2 = _ := hv2
          show wpList _ _ _ _ _ _
          simp only [Grow.dstOf, List.getElem?_toArray, List.getElem?_cons_succ, List.getElem?_cons_zero, Option.bind_some, Act.put, List.setIfInBounds_toArray, List.set_cons_succ, List.set_cons_zero]
          go_wp2_with fail
          refine (less_is 0 q true HL0.out fits0 HF.out w' (HT0.out.ext (ext_trans HW.out hb))).mono ?_
          rintro e wz ⟨rfl, hbz⟩
          go_wp2
          exact ⟨rfl, hbz, rfl⟩
        case o3b =>
          intro w' hb v1 hv1
          obtain rfl : v1 = _ := hv1
          show wpList _ _ _ _ _ _
          simp only [Grow.dstOf, List.getElem?_toArray, List.getElem?_cons_succ, List.getElem?_cons_zero, Option.bind_some, Act.put, List.setIfInBounds_toArray, List.set_cons_succ, List.set_cons_zero]
          go_wp2
          exact ⟨rfl, Below.refl _ _, rfl⟩
        case o4b =>
          intro w' hb v1 hv1
          obtain rfl : v1 = _ := hv1
          show wpList _ _ _ _ _ _
          simp only [Grow.dstOf, List.getElem?_toArray, List.getElem?_cons_succ, List.getElem?_cons_zero, Option.bind_some, Act.put, List.setIfInBounds_toArray, List.set_cons_succ, List.set_cons_zero]
          go_wp2
          exact ⟨rfl, Below.refl _ _, rfl⟩
        case o5b =>
          intro w' hb v1 hv1
          obtain rfl : v1 = _ := hv1
          have c_r_0' : w'.cell? ⟨w.heap.size, 0, none⟩ = some (.string (showN q)) := (hb.cell (World.block_lt_of_cell? _ _ c_r_0)).trans c_r_0
          have c_r_1' : w'.cell? ⟨w.heap.size, 1, none⟩ = some (.string (showD q)) := (hb.cell (World.block_lt_of_cell? _ _ c_r_1)).trans c_r_1
          show wpList _ _ _ _ _ _
          simp only [Grow.dstOf, List.getElem?_toArray, List.getElem?_cons_succ, List.getElem?_cons_zero, Option.bind_some, Act.put, List.setIfInBounds_toArray, List.set_cons_succ, List.set_cons_zero]
          go_wp2
          exact ⟨rfl, Below.refl _ _, rfl⟩
        case o6b =>
          intro w' hb v1 hv1
          obtain rfl : v1 = _ := hv1
          show wpList _ _ _ _ _ _
          simp only [Grow.dstOf, List.getElem?_toArray, List.getElem?_cons_succ, List.getElem?_cons_zero, Option.bind_some, Act.put, List.setIfInBounds_toArray, List.set_cons_succ, List.set_cons_zero]
          go_wp2_with fail
          refine (whole1 w' (HT0.out.ext (ext_trans HW.out hb))).mono ?_
          rintro e wz ⟨rfl, hbz⟩
          go_wp2
          exact ⟨rfl, hbz, rfl⟩
        case o7b =>
          intro w' hb v1 hv1 v2 hv2 v3 hv3
          obtain rfl : v1 = _ := hv1
          obtain rfl : v2 = _ := hv2
          obtain rfl : v3 = _ := hv3
          show wpList _ _ _ _ _ _
          simp only [Grow.dstOf, List.getElem?_toArray, List.getElem?_cons_succ, List.getElem?_cons_zero, Option.bind_some, Act.put, List.setIfInBounds_toArray, List.set_cons_succ, List.set_cons_zero]
          go_wp2_with fail
          refine (less_is q 1 false HL1.out HF.out fits1 w' (HT0.out.ext (ext_trans HW.out hb))).mono ?_
          rintro e wz ⟨rfl, hbz⟩
          go_wp2
          exact ⟨rfl, hbz, rfl⟩
        case o8b =>
          intro w' hb v1 hv1 v2 hv2
          obtain rfl : v1 = _ := hv1
          obtain rfl : v2 = _ := hv2
          show wpList _ _ _ _ _ _
          simp only [Grow.dstOf, List.getElem?_toArray, List.getElem?_cons_succ, List.getElem?_cons_zero, Option.bind_some, Act.put, List.setIfInBounds_toArray, List.set_cons_succ, List.set_cons_zero]
          go_wp2
          exact ⟨rfl, Below.refl _ _, rfl⟩
        intro w3' hbz u0 hu0 u1 hu1 u2 hu2 u3 hu3 u4 hu4 u5 hu5 u6 hu6 u7 hu7 u8 hu8
        obtain rfl : u0 = _ := hu0
        obtain rfl : u1 = _ := hu1
        obtain rfl : u2 = _ := hu2
        obtain rfl : u3 = _ := hu3
        obtain rfl : u4 = _ := hu4
        obtain rfl : u5 = _ := hu5
        obtain rfl : u6 = _ := hu6
        obtain rfl : u7 = _ := hu7
        obtain rfl : u8 = _ := hu8
        replace HB_r := Lib.hid (HB_r.out.ext hbz)
        replace HW := Lib.hid (ext_trans HW.out hbz)
        clear c_r_0 c_r_1
        clear hbz
        show wpList _ _ _ _ _ _
        simp only [Act.put, List.setIfInBounds_toArray, List.set_cons_succ, List.set_cons_zero]
        go_wp2
        go_ret
        exact ⟨ret_int (by rw [HM.out, HO.out, if_pos rfl]), HW.out⟩
    · have HL0 : Hid (decide (0 < q) = false) := Lib.hid (decide_eq_false h0)
      have HO : Hid (okM q = false) := Lib.hid (by rw [okM_is, HL0.out]; rfl)
      clear h0
      go_upto_region 4 with (fail)
      have c_r_0 : w2'.cell? ⟨w.heap.size, 0, none⟩ = some (.string (showN q)) := HB_r.out.2 0
      have c_r_1 : w2'.cell? ⟨w.heap.size, 1, none⟩ = some (.string (showD q)) := HB_r.out.2 1
      refine Grow.wp_region_grow 9 [TP.eq (rtV (0)), TP.eq (rtV (q)), TP.eq (.bool false), TP.eq (.bool true), TP.eq (.bool true), TP.eq undef, TP.eq undef, TP.eq undef, TP.eq undef] [[], [], [0, 1], [2], [3], [4], [4], [4, 5, 6], [4, 7]] (by kernel_rfl) (by kernel_rfl) ⟨?o0c, ?o1c, ?o2c, ?o3c, ?o4c, ?o5c, ?o6c, ?o7c, ?o8c, trivial⟩ ?_
      case o0c =>
        intro w' hb
        show wpList _ _ _ _ _ _
        go_wp2_with fail
        refine (whole0 w' (HT0.out.ext (ext_trans HW.out hb))).mono ?_
        rintro e wz ⟨rfl, hbz⟩
        go_wp2
        exact ⟨rfl, hbz, rfl⟩
      case o1c =>
        intro w' hb
        have c_r_0' : w'.cell? ⟨w.heap.size, 0, none⟩ = some (.string (showN q)) := (hb.cell (World.block_lt_of_cell? _ _ c_r_0)).trans c_r_0
        have c_r_1' : w'.cell? ⟨w.heap.size, 1, none⟩ = some (.string (showD q)) := (hb.cell (World.block_lt_of_cell? _ _ c_r_1)).trans c_r_1
        show wpList _ _ _ _ _ _
        go_wp2
        exact ⟨rfl, Below.refl _ _, rfl⟩
      case o2c =>
        intro w' hb v1 hv1 v2 hv2
        obtain rfl : v1 = _ := hv1
        obtain rfl : v2 = _ := hv2
        show wpList _ _ _ _ _ _
        simp only [Grow.dstOf, List.getElem?_toArray, List.getElem?_cons_succ, List.getElem?_cons_zero, Option.bind_some, Act.put, List.setIfInBounds_toArray, List.set_cons_succ, List.set_cons_zero]
        go_wp2_with fail
        refine (less_is 0 q false HL0.out fits0 HF.out w' (HT0.out.ext (ext_trans HW.out hb))).mono ?_
        rintro e wz ⟨rfl, hbz⟩
        go_wp2
        exact ⟨rfl, hbz, rfl⟩
      case o3c =>
        intro w' hb v1 hv1
        obtain rfl : v1 = _ := hv1
        show wpList _ _ _ _ _ _
        simp only [Grow.dstOf, List.getElem?_toArray, List.getElem?_cons_succ, List.getElem?_cons_zero, Option.bind_some, Act.put, List.setIfInBounds_toArray, List.set_cons_succ, List.set_cons_zero]
        go_wp2
        exact ⟨rfl, Below.refl _ _, rfl⟩
      case o4c =>
        intro w' hb v1 hv1
        obtain rfl : v1 = _ := hv1
        show wpList _ _ _ _ _ _
        simp only [Grow.dstOf, List.getElem?_toArray, List.getElem?_cons_succ, List.getElem?_cons_zero, Option.bind_some, Act.put, List.setIfInBounds_toArray, List.set_cons_succ, List.set_cons_zero]
        go_wp2
        exact ⟨rfl, Below.refl _ _, rfl⟩
      case o5c =>
        intro w' hb v1 hv1
        obtain rfl : v1 = _ := hv1
        show wpList _ _ _ _ _ _
        simp only [Grow.dstOf, List.getElem?_toArray, List.getElem?_cons_succ, List.getElem?_cons_zero, Option.bind_some, Act.put, List.setIfInBounds_toArray, List.set_cons_succ, List.set_cons_zero]
        go_wp2
        exact ⟨rfl, Below.refl _ _, rfl⟩
      case o6c =>
        intro w' hb v1 hv1
        obtain rfl : v1 = _ := hv1
        show wpList _ _ _ _ _ _
        simp only [Grow.dstOf, List.getElem?_toArray, List.getElem?_cons_succ, List.getElem?_cons_zero, Option.bind_some, Act.put, List.setIfInBounds_toArray, List.set_cons_succ, List.set_cons_zero]
        go_wp2
        exact ⟨rfl, Below.refl _ _, rfl⟩
      case o7c =>
        intro w' hb v1 hv1 v2 hv2 v3 hv3
        obtain rfl : v1 = _ := hv1
        obtain rfl : v2 = _ := hv2
        obtain rfl : v3 = _ := hv3
        show wpList _ _ _ _ _ _
        simp only [Grow.dstOf, List.getElem?_toArray, List.getElem?_cons_succ, List.getElem?_cons_zero, Option.bind_some, Act.put, List.setIfInBounds_toArray, List.set_cons_succ, List.set_cons_zero]
        go_wp2
        exact ⟨rfl, Below.refl _ _, rfl⟩
      case o8c =>
        intro w' hb v1 hv1 v2 hv2
        obtain rfl : v1 = _ := hv1
        obtain rfl : v2 = _ := hv2
        show wpList _ _ _ _ _ _
        simp only [Grow.dstOf, List.getElem?_toArray, List.getElem?_cons_succ, List.getElem?_cons_zero, Option.bind_some, Act.put, List.setIfInBounds_toArray, List.set_cons_succ, List.set_cons_zero]
        go_wp2
        exact ⟨rfl, Below.refl _ _, rfl⟩
      intro w3' hbz u0 hu0 u1 hu1 u2 hu2 u3 hu3 u4 hu4 u5 hu5 u6 hu6 u7 hu7 u8 hu8
      obtain rfl : u0 = _ := hu0
      obtain rfl : u1 = _ := hu1
      obtain rfl : u2 = _ := hu2
      obtain rfl : u3 = _ := hu3
      obtain rfl : u4 = _ := hu4
      obtain rfl : u5 = _ := hu5
      obtain rfl : u6 = _ := hu6
      obtain rfl : u7 = _ := hu7
      obtain rfl : u8 = _ := hu8
      replace HB_r := Lib.hid (HB_r.out.ext hbz)
      replace HW := Lib.hid (ext_trans HW.out hbz)
      clear c_r_0 c_r_1
      clear hbz
      show wpList _ _ _ _ _ _
      simp only [Act.put, List.setIfInBounds_toArray, List.set_cons_succ, List.set_cons_zero]
      go_wp2
      go_ret
      exact ⟨ret_int (by rw [HM.out, HO.out, if_pos rfl]), HW.out⟩
  · have hne : (rF n d != 0) = true := by simp [hf]
    have HM : Hid (missF n d = rF n d) := Lib.hid (by unfold missF; rw [if_pos hf])
    clear hf
    go_wp2
    go_ret
    exact ⟨ret_int HM.out.symm, HW.out⟩
end Nt
end Go.Proofs.YtgfhbnbmpbhpfaaGreatDoor
namespace Go.Proofs.YtgfhbnbmpbhpfaaGreatDoor
namespace Nm

theorem natCast_pos {n : Nat} (h : 0 < n) : (0 : Rat) < ((n : Nat) : Rat) := by
  have := Rat.natCast_lt_natCast.2 h
  exact this
theorem natCast_nonneg (n : Nat) : (0 : Rat) ≤ ((n : Nat) : Rat) := by
  have := (Rat.natCast_le_natCast (a := 0) (b := n)).2 (Nat.zero_le _)
  exact this
end Nm
end Go.Proofs.YtgfhbnbmpbhpfaaGreatDoor
namespace Go.Proofs.YtgfhbnbmpbhpfaaGreatDoor
open Go.RowKit
namespace lawLine
open _root_.Go.Proofs.YtgfhbnbmpbhpfaaGreatDoor.Nm _root_.Go.Proofs.YtgfhbnbmpbhpfaaGreatDoor.Nt
theorem miss_parts {n m : ByteArray} (h : missF n m = 0) : ∃ q, Fits q ∧ rQ n m = q ∧ n = showN q ∧ m = showD q ∧ 0 < q ∧ q < 1 ∧ Ln 100 100 q := by
  have hr := (missF_ok h).1
  obtain ⟨q, hq, hrq, hn, hm⟩ := show_parts hr
  unfold missF at h
  rw [if_neg (fun h' => h' hr)] at h
  by_cases ho : okM (rQ n m) = false
  · rw [if_pos ho] at h; cases h
  · rw [if_neg ho] at h
    have ho' : okM q = true := by rw [← hrq]; simpa using ho
    rw [okM_is] at ho'
    simp only [Bool.and_eq_true, decide_eq_true_eq] at ho'
    by_cases hl : longB n m = true
    · rw [if_pos hl] at h; cases h
    · refine ⟨q, hq, hrq, hn, hm, ho'.1, ho'.2, ?_⟩
      have hl' : longB n m = false := by simpa using hl
      unfold longB at hl'
      simp only [Bool.or_eq_false_iff, decide_eq_false_iff_not] at hl'
      obtain ⟨_, h2, h3, h4, h5, h6, h7, _⟩ := rQ_facts hr
      have l1 : (cutS n).data.toList.length = (cutS n).size := Array.length_toList
      have l2 : m.data.toList.length = m.size := Array.length_toList
      have e1 := decv_lt (whole_digs h4)
      have e2 := decv_lt (whole_digs h5)
      rw [← hrq]
      constructor
      · rw [h2, sgn_natAbs]
        exact Nat.le_trans (Nat.le_of_lt e1) (ten_le (by omega))
      · rw [h3]
        exact Nat.le_trans (Nat.le_of_lt e2) (ten_le (by omega))
end lawLine
namespace Nt
open _root_.Go.Proofs.YtgfhbnbmpbhpfaaGreatDoor.Nm (Fits)
end Nt
end Go.Proofs.YtgfhbnbmpbhpfaaGreatDoor
namespace Go.Proofs.YtgfhbnbmpbhpfaaGreatDoor
open Go.RowKit
namespace Nm
/-- fault of an evidence, or a weight -/
def partF (n d : ByteArray) : Int := if rF n d ≠ 0 then rF n d else if (rQ n d).num < 0 then 1 else if longB n d = true then 2 else 0
/-- fault of a number of evidences -/
def mF (k : Nat) : Int := if k = 0 then 9 else if 10 < k then 2 else 0
def aF : List RT → Int
  | [] => 0
  | r :: t => if partF r.n r.d ≠ 0 then partF r.n r.d else aF t
def allF (l : List RT) : Int := if mF l.length ≠ 0 then mF l.length else aF l
theorem aF_step {l : List RT} {k : Nat} {r : RT} (h : l[k]? = some r) : aF (l.drop k) = if partF r.n r.d ≠ 0 then partF r.n r.d else aF (l.drop (k + 1)) := by
  obtain ⟨hk, rfl⟩ := List.getElem?_eq_some_iff.1 h
  rw [List.drop_eq_getElem_cons hk]; rfl
theorem mF_ok {k : Nat} (h : mF k = 0) : 1 ≤ k ∧ k ≤ 10 := by
  unfold mF at h
  by_cases h1 : k = 0
  · rw [if_pos h1] at h; cases h
  · rw [if_neg h1] at h
    by_cases h2 : 10 < k
    · rw [if_pos h2] at h; cases h
    · omega
theorem allF_ok {l : List RT} (h : allF l = 0) : (1 ≤ l.length ∧ l.length ≤ 10) ∧ aF l = 0 := by
  unfold allF at h
  by_cases h1 : mF l.length = 0
  · rw [if_neg (fun h' => h' h1)] at h; exact ⟨mF_ok h1, h⟩
  · rw [if_pos h1] at h; exact absurd h h1
theorem aF_all : ∀ {gs : List RT}, aF gs = 0 → ∀ r ∈ gs, partF r.n r.d = 0
  | [], _, r, hr => by cases hr
  | x :: t, h, r, hr => by
    unfold aF at h
    by_cases hx : partF x.n x.d = 0
    · rw [if_neg (fun h' => h' hx)] at h
      rcases List.mem_cons.1 hr with rfl | hr
      · exact hx
      · exact aF_all h r hr
    · rw [if_pos hx] at h; exact absurd h hx
theorem rat_neg {q : Rat} : q.num < 0 ↔ q < 0 := by
  rw [Rat.lt_iff]
  simp
theorem part_parts {n m : ByteArray} (h : partF n m = 0) : rF n m = 0 ∧ ∃ q, Fits q ∧ rQ n m = q ∧ n = showN q ∧ m = showD q ∧ 0 ≤ q ∧ Ln 100 100 q := by
  unfold partF at h
  by_cases hr : rF n m = 0
  · rw [if_neg (fun h' => h' hr)] at h
    refine ⟨hr, ?_⟩
    obtain ⟨q, hq, hrq, hn, hm⟩ := Nt.show_parts hr
    by_cases ho : (rQ n m).num < 0
    · rw [if_pos ho] at h; cases h
    · rw [if_neg ho] at h
      by_cases hl : longB n m = true
      · rw [if_pos hl] at h; cases h
      · refine ⟨q, hq, hrq, hn, hm, Rat.not_lt.1 (fun h' => ho (by rw [hrq]; exact rat_neg.2 h')), ?_⟩
        have hl' : longB n m = false := by simpa using hl
        unfold longB at hl'
        simp only [Bool.or_eq_false_iff, decide_eq_false_iff_not] at hl'
        obtain ⟨_, h2, h3, h4, h5, h6, h7, _⟩ := rQ_facts hr
        have l1 : (cutS n).data.toList.length = (cutS n).size := Array.length_toList
        have l2 : m.data.toList.length = m.size := Array.length_toList
        have e1 := decv_lt (Nt.whole_digs h4)
        have e2 := decv_lt (Nt.whole_digs h5)
        rw [← hrq]
        constructor
        · rw [h2, sgn_natAbs]
          exact Nat.le_trans (Nat.le_of_lt e1) (ten_le (by omega))
        · rw [h3]
          exact Nat.le_trans (Nat.le_of_lt e2) (ten_le (by omega))
  · rw [if_pos hr] at h; exact absurd h hr
theorem Ln.small {a b : Nat} {q : Rat} (h : Ln a b q) (ha : a ≤ 5000) (hb : b ≤ 5000) : wlen q.num.natAbs ≤ 6000 ∧ wlen q.den ≤ 6000 := by
  have k1 : 10 ^ a < 10 ^ (a + 1) := Nat.pow_lt_pow_right (by decide) (Nat.lt_succ_self a)
  have k2 : 10 ^ b < 10 ^ (b + 1) := Nat.pow_lt_pow_right (by decide) (Nat.lt_succ_self b)
  have h1 := wlen_dec (Nat.lt_of_le_of_lt h.1 k1)
  have h2 := wlen_dec (Nat.lt_of_le_of_lt h.2 k2)
  omega
theorem res3c {w0 w : World} {b : Nat} {x0 x1 x2 : Value} (u0 u1 u2 : Value) (hC : Box w b #[x0, x1, x2]) (hb : Below w0.heap.size w0 w) (hle : w0.heap.size ≤ b) :
    Below w0.heap.size w0 (((w.setCell ⟨b, 0, none⟩ u0).setCell ⟨b, 1, none⟩ u1).setCell ⟨b, 2, none⟩ u2) ∧ (((w.setCell ⟨b, 0, none⟩ u0).setCell ⟨b, 1, none⟩ u1).setCell ⟨b, 2, none⟩ u2).cell? ⟨b, 0, none⟩ = some u0 ∧ (((w.setCell ⟨b, 0, none⟩ u0).setCell ⟨b, 1, none⟩ u1).setCell ⟨b, 2, none⟩ u2).cell? ⟨b, 1, none⟩ = some u1 ∧ (((w.setCell ⟨b, 0, none⟩ u0).setCell ⟨b, 1, none⟩ u1).setCell ⟨b, 2, none⟩ u2).cell? ⟨b, 2, none⟩ = some u2 := by
  have hq := three_set u0 u1 u2 (hC.2 0) (hC.2 1) (hC.2 2)
  exact ⟨((hb.setCell hle _).setCell hle _).setCell hle _, hq.1, hq.2.1, hq.2.2⟩
def XIf3 (w : World) (f : Int) (v : Value) (q : Rat) : Prop := f = 0 → XR w v q
theorem XIf3.ext {w w' : World} {f : Int} {v : Value} {q : Rat} (h : XIf3 w f v q) (hb : Below w.heap.size w w') : XIf3 w' f v q := fun h0 => (h h0).ext hb
def PartPost (w : World) (n d : ByteArray) (e : Ending) (w' : World) : Prop := ∃ b a1 n1 c1 a2 n2 c2, e = .returned (.tuple #[xv b a1 n1 c1 a2 n2 c2, .int .i64 (partF n d)]) ∧ XIf3 w' (partF n d) (xv b a1 n1 c1 a2 n2 c2) (rQ n d) ∧ Below w.heap.size w w'
end Nm
end Go.Proofs.YtgfhbnbmpbhpfaaGreatDoor
namespace Go.Proofs.YtgfhbnbmpbhpfaaGreatDoor
open Go.RowKit
theorem wp_box2f {P : Program} {c : Code} {Q : Exit → Act → World → Prop} {a : Act} {w : World} {A B : Array Value} {t u : TypeId}
    (h : ∀ W, W.heap.size = w.heap.size + 2 → Below w.heap.size w W → Box W w.heap.size A → Fre W w.heap.size → Box W (w.heap.size + 1) B → Fre W (w.heap.size + 1) → c.wp P Q a W) : c.wp P Q a ((w.alloc (.cells A t)).alloc (.cells B u)) := by
  have b1 := Box.new w A t
  have f1 := Fre.new w A t
  have hb : Below (w.alloc (.cells A t)).heap.size (w.alloc (.cells A t)) ((w.alloc (.cells A t)).alloc (.cells B u)) := ext_alloc _ _
  refine h _ (by simp) (by go_grown) (b1.ext hb) (f1.ext b1 hb) ?_ ?_
  · have := Box.new (w.alloc (.cells A t)) B u
    simpa using this
  · have := Fre.new (w.alloc (.cells A t)) B u
    simpa using this
theorem wp_box3f {P : Program} {c : Code} {Q : Exit → Act → World → Prop} {a : Act} {w : World} {A B C : Array Value} {t u v : TypeId}
    (h : ∀ W, W.heap.size = w.heap.size + 3 → Below w.heap.size w W → Box W w.heap.size A → Fre W w.heap.size → Box W (w.heap.size + 1) B → Fre W (w.heap.size + 1) → Box W (w.heap.size + 2) C → Fre W (w.heap.size + 2) → c.wp P Q a W) : c.wp P Q a (((w.alloc (.cells A t)).alloc (.cells B u)).alloc (.cells C v)) := by
  have b1 := Box.new w A t
  have f1 := Fre.new w A t
  have hb : Below (w.alloc (.cells A t)).heap.size (w.alloc (.cells A t)) ((w.alloc (.cells A t)).alloc (.cells B u)) := ext_alloc _ _
  have hb2 : Below ((w.alloc (.cells A t)).alloc (.cells B u)).heap.size ((w.alloc (.cells A t)).alloc (.cells B u)) (((w.alloc (.cells A t)).alloc (.cells B u)).alloc (.cells C v)) := ext_alloc _ _
  have b2 : Box ((w.alloc (.cells A t)).alloc (.cells B u)) (w.heap.size + 1) B := by
    have := Box.new (w.alloc (.cells A t)) B u
    simpa using this
  have f2 : Fre ((w.alloc (.cells A t)).alloc (.cells B u)) (w.heap.size + 1) := by
    have := Fre.new (w.alloc (.cells A t)) B u
    simpa using this
  refine h _ (by simp) (by go_grown) ((b1.ext hb).ext hb2) ((f1.ext b1 hb).ext (b1.ext hb) hb2) (b2.ext hb2) (f2.ext b2 hb2) ?_ ?_
  · have := Box.new ((w.alloc (.cells A t)).alloc (.cells B u)) C v
    simpa using this
  · have := Fre.new ((w.alloc (.cells A t)).alloc (.cells B u)) C v
    simpa using this
end Go.Proofs.YtgfhbnbmpbhpfaaGreatDoor
namespace Go.Proofs.YtgfhbnbmpbhpfaaGreatDoor
open Go.RowKit
namespace Nm
def TP.num (n : Nat) : TP := ⟨fun w v => N w v n, fun _ _ _ hb h => h.ext hb⟩
def XIf (w : World) (n d : ByteArray) (v : Value) : Prop := rF n d = 0 → XR w v (rQ n d)
theorem XIf.ext {w w' : World} {n d : ByteArray} {v : Value} (h : XIf w n d v) (hb : Below w.heap.size w w') : XIf w' n d v := fun h0 => (h h0).ext hb
theorem tail_none {P : Program} {ops : Array Oper} {Q : Exit → Act → World → Prop} {a : Act} {w : World} (h : Q .normal a w) : wpList P ops Q [] a w := h
end Nm
end Go.Proofs.YtgfhbnbmpbhpfaaGreatDoor
