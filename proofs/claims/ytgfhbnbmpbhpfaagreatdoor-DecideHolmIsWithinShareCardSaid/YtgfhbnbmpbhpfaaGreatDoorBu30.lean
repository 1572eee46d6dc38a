/- Whole, Plus, Times, Minus, Over, Less of the references: on texts. Printed by gen_rm.py. What is written is read back; the plain law of RatiosAddUp. Plain: how long the numbers of a calculation can be. No program stands in it. Whole, Plus, Times, Minus, Over, Less of the references: on numbers that are short enough. -/
import Derived.Test.YtgfhbnbmpbhpfaaGreatDoorBu28
import Derived.Test.YtgfhbnbmpbhpfaaGreatDoorBu29
import Derived.Test.YtgfhbnbmpbhpfaaGreatDoorBu10
import Derived.Test.YtgfhbnbmpbhpfaaGreatDoorBu03
import Derived.Test.YtgfhbnbmpbhpfaaGreatDoorBu08
namespace Go.Proofs.YtgfhbnbmpbhpfaaGreatDoor
open Go.RowKit
namespace Nt
open _root_.Go.Proofs.YtgfhbnbmpbhpfaaGreatDoor.Nm (rF rQ sgn outN outD outF AnsPost bF opN opD opF iN iD iF quoN quoD quoF ordV OrdPost)
/-- a call that returns a ratio -/
def RPost (w : World) (s t : ByteArray) (e : Ending) (w' : World) : Prop := e = .returned (.agg #[.string s, .string t]) ∧ Below w.heap.size w w'
set_option maxRecDepth 100000 in
set_option maxHeartbeats 8000000 in
theorem mWhole_at (n : Int) (h1 : -9223372036854775808 ≤ n) (h2 : n ≤ 9223372036854775807) (w : World) (ht : Tab w) : Calls Tryz.prog 37 #[.int .i64 n] w (RPost w (quoN n 1) (quoD n 1)) := by
  obtain ⟨s, hs⟩ : ∃ s, quoN n 1 = s := ⟨_, rfl⟩
  obtain ⟨t, htt⟩ : ∃ t, quoD n 1 = t := ⟨_, rfl⟩
  have HST := Lib.hid (And.intro hs htt)
  rw [hs, htt]
  clear hs htt
  go_enter Tryz.func37, Tryz.ntmps37
  go_upto_region 1 with (fail)
  refine wp_box1r fun W hsz hbW hC hF => ?_
  have HT := Lib.hid (ht.ext hbW)
  clear hsz ht
  have HX := Lib.hid (And.intro hC (And.intro hF hbW))
  clear hC hF hbW
  go_wp2_with fail
  refine (refRatioOf_at n 1 h1 h2 (by omega) (by omega) W HT.out).mono ?_
  rintro e w1 ⟨rfl, hb1⟩
  rw [HST.out.1, HST.out.2]
  have HX1 := Lib.hid (And.intro (HX.out.1.ext hb1) (And.intro (HX.out.2.1.ext HX.out.1 hb1) (ext_trans HX.out.2.2 hb1)))
  clear HX HT hb1
  go_upto_region 2 with (fail)
  refine wp_box1 fun w2 hsz2 hb2 hR => ?_
  have hC2 := HX1.out.1.ext hb2
  have hF2 := HX1.out.2.1.ext HX1.out.1 hb2
  have hbw2 := ext_trans HX1.out.2.2 hb2
  clear hsz2 HX1 hb2
  generalize w1.heap.size = br at *
  have x0 : w2.cell? ⟨br, 0, none⟩ = some (.string s) := hR.2 0
  have x1 : w2.cell? ⟨br, 1, none⟩ = some (.string t) := hR.2 1
  have r0 : w2.cell? ⟨w.heap.size, 0, none⟩ = some (.string ⟨#[]⟩) := hC2.2 0
  have r1 : w2.cell? ⟨w.heap.size, 1, none⟩ = some (.string ⟨#[]⟩) := hC2.2 1
  have g0 := hF2 0
  have g1 := hF2 1
  have HR := Lib.hid (res2s (.string s) (.string t) hC2 hbw2 (Nat.le_refl _))
  obtain ⟨hbF, z0, z1⟩ := id HR.out
  clear hC2 hF2 hbw2 hR hbF
  go_wp2
  exact bodyPost_ret (v := .agg #[.string s, .string t]) (by simp [results, Tryz.results37, go_sem, z0, z1]) rfl ⟨rfl, HR.out.1⟩
set_option maxRecDepth 100000 in
set_option maxHeartbeats 8000000 in
theorem mPlus_at (n1 d1 n2 d2 : ByteArray) (h1 : n1.size ≤ maxLen) (h2 : d1.size ≤ maxLen) (h3 : n2.size ≤ maxLen) (h4 : d2.size ≤ maxLen) (w : World) (ht : Tab w) : Calls Tryz.prog 66 #[.agg #[.string n1, .string d1], .agg #[.string n2, .string d2]] w (RPost w (opN (· + ·) n1 d1 n2 d2) (opD (· + ·) n1 d1 n2 d2)) := by
  obtain ⟨s, hs⟩ : ∃ s, opN (· + ·) n1 d1 n2 d2 = s := ⟨_, rfl⟩
  obtain ⟨t, htt⟩ : ∃ t, opD (· + ·) n1 d1 n2 d2 = t := ⟨_, rfl⟩
  have HST := Lib.hid (And.intro hs htt)
  rw [hs, htt]
  clear hs htt
  go_enter Tryz.func66, Tryz.ntmps66
  go_upto_region 1 with (fail)
  refine wp_box3r fun W hsz hbW hA hB hC hF => ?_
  have HT := Lib.hid (ht.ext hbW)
  clear hsz ht
  have a0 : W.cell? ⟨w.heap.size, 0, none⟩ = some (.string n1) := hA.2 0
  have a1 : W.cell? ⟨w.heap.size, 1, none⟩ = some (.string d1) := hA.2 1
  have a2 : W.cell? ⟨w.heap.size + 1, 0, none⟩ = some (.string n2) := hB.2 0
  have a3 : W.cell? ⟨w.heap.size + 1, 1, none⟩ = some (.string d2) := hB.2 1
  have HX := Lib.hid (And.intro hC (And.intro hF hbW))
  clear hA hB hC hF hbW
  go_wp2_with fail
  refine (refSum_at n1 d1 n2 d2 h1 h2 h3 h4 W HT.out).mono ?_
  rintro e w1 ⟨rfl, hb1⟩
  rw [HST.out.1, HST.out.2]
  have HX1 := Lib.hid (And.intro (HX.out.1.ext hb1) (And.intro (HX.out.2.1.ext HX.out.1 hb1) (ext_trans HX.out.2.2 hb1)))
  clear a0 a1 a2 a3 HX HT hb1
  go_upto_region 2 with (fail)
  refine wp_box1 fun w2 hsz2 hb2 hR => ?_
  have hC2 := HX1.out.1.ext hb2
  have hF2 := HX1.out.2.1.ext HX1.out.1 hb2
  have hbw2 := ext_trans HX1.out.2.2 hb2
  clear hsz2 HX1 hb2
  generalize w1.heap.size = br at *
  have x0 : w2.cell? ⟨br, 0, none⟩ = some (.string s) := hR.2 0
  have x1 : w2.cell? ⟨br, 1, none⟩ = some (.string t) := hR.2 1
  have r0 : w2.cell? ⟨w.heap.size + 2, 0, none⟩ = some (.string ⟨#[]⟩) := hC2.2 0
  have r1 : w2.cell? ⟨w.heap.size + 2, 1, none⟩ = some (.string ⟨#[]⟩) := hC2.2 1
  have g0 := hF2 0
  have g1 := hF2 1
  have HR := Lib.hid (res2s (.string s) (.string t) hC2 hbw2 (by omega))
  obtain ⟨hbF, z0, z1⟩ := id HR.out
  clear hC2 hF2 hbw2 hR hbF
  go_wp2
  exact bodyPost_ret (v := .agg #[.string s, .string t]) (by simp [results, Tryz.results66, go_sem, z0, z1]) rfl ⟨rfl, HR.out.1⟩
set_option maxRecDepth 100000 in
set_option maxHeartbeats 8000000 in
theorem mTimes_at (n1 d1 n2 d2 : ByteArray) (h1 : n1.size ≤ maxLen) (h2 : d1.size ≤ maxLen) (h3 : n2.size ≤ maxLen) (h4 : d2.size ≤ maxLen) (w : World) (ht : Tab w) : Calls Tryz.prog 67 #[.agg #[.string n1, .string d1], .agg #[.string n2, .string d2]] w (RPost w (opN (· * ·) n1 d1 n2 d2) (opD (· * ·) n1 d1 n2 d2)) := by
  obtain ⟨s, hs⟩ : ∃ s, opN (· * ·) n1 d1 n2 d2 = s := ⟨_, rfl⟩
  obtain ⟨t, htt⟩ : ∃ t, opD (· * ·) n1 d1 n2 d2 = t := ⟨_, rfl⟩
  have HST := Lib.hid (And.intro hs htt)
  rw [hs, htt]
  clear hs htt
  go_enter Tryz.func67, Tryz.ntmps67
  go_upto_region 1 with (fail)
  refine wp_box3r fun W hsz hbW hA hB hC hF => ?_
  have HT := Lib.hid (ht.ext hbW)
  clear hsz ht
  have a0 : W.cell? ⟨w.heap.size, 0, none⟩ = some (.string n1) := hA.2 0
  have a1 : W.cell? ⟨w.heap.size, 1, none⟩ = some (.string d1) := hA.2 1
  have a2 : W.cell? ⟨w.heap.size + 1, 0, none⟩ = some (.string n2) := hB.2 0
  have a3 : W.cell? ⟨w.heap.size + 1, 1, none⟩ = some (.string d2) := hB.2 1
  have HX := Lib.hid (And.intro hC (And.intro hF hbW))
  clear hA hB hC hF hbW
  go_wp2_with fail
  refine (refProduct_at n1 d1 n2 d2 h1 h2 h3 h4 W HT.out).mono ?_
  rintro e w1 ⟨rfl, hb1⟩
  rw [HST.out.1, HST.out.2]
  have HX1 := Lib.hid (And.intro (HX.out.1.ext hb1) (And.intro (HX.out.2.1.ext HX.out.1 hb1) (ext_trans HX.out.2.2 hb1)))
  clear a0 a1 a2 a3 HX HT hb1
  go_upto_region 2 with (fail)
  refine wp_box1 fun w2 hsz2 hb2 hR => ?_
  have hC2 := HX1.out.1.ext hb2
  have hF2 := HX1.out.2.1.ext HX1.out.1 hb2
  have hbw2 := ext_trans HX1.out.2.2 hb2
  clear hsz2 HX1 hb2
  generalize w1.heap.size = br at *
  have x0 : w2.cell? ⟨br, 0, none⟩ = some (.string s) := hR.2 0
  have x1 : w2.cell? ⟨br, 1, none⟩ = some (.string t) := hR.2 1
  have r0 : w2.cell? ⟨w.heap.size + 2, 0, none⟩ = some (.string ⟨#[]⟩) := hC2.2 0
  have r1 : w2.cell? ⟨w.heap.size + 2, 1, none⟩ = some (.string ⟨#[]⟩) := hC2.2 1
  have g0 := hF2 0
  have g1 := hF2 1
  have HR := Lib.hid (res2s (.string s) (.string t) hC2 hbw2 (by omega))
  obtain ⟨hbF, z0, z1⟩ := id HR.out
  clear hC2 hF2 hbw2 hR hbF
  go_wp2
  exact bodyPost_ret (v := .agg #[.string s, .string t]) (by simp [results, Tryz.results67, go_sem, z0, z1]) rfl ⟨rfl, HR.out.1⟩
set_option maxRecDepth 100000 in
set_option maxHeartbeats 8000000 in
theorem mLess_at (n1 d1 n2 d2 : ByteArray) (h1 : n1.size ≤ maxLen) (h2 : d1.size ≤ maxLen) (h3 : n2.size ≤ maxLen) (h4 : d2.size ≤ maxLen) (w : World) (ht : Tab w) : Calls Tryz.prog 35 #[.agg #[.string n1, .string d1], .agg #[.string n2, .string d2]] w (fun e w' => e = .returned (.bool (decide (ordV n1 d1 n2 d2 < 0))) ∧ Below w.heap.size w w') := by
  obtain ⟨o, ho⟩ : ∃ o, ordV n1 d1 n2 d2 = o := ⟨_, rfl⟩
  have HO := Lib.hid ho
  rw [ho]
  clear ho
  go_enter Tryz.func35, Tryz.ntmps35
  go_upto_region 1 with (fail)
  refine wp_box2 fun W hsz hbW hA hB => ?_
  have HT := Lib.hid (ht.ext hbW)
  clear hsz ht
  have a0 : W.cell? ⟨w.heap.size, 0, none⟩ = some (.string n1) := hA.2 0
  have a1 : W.cell? ⟨w.heap.size, 1, none⟩ = some (.string d1) := hA.2 1
  have a2 : W.cell? ⟨w.heap.size + 1, 0, none⟩ = some (.string n2) := hB.2 0
  have a3 : W.cell? ⟨w.heap.size + 1, 1, none⟩ = some (.string d2) := hB.2 1
  clear hA hB
  go_wp2_with fail
  refine (refOrder_at n1 d1 n2 d2 h1 h2 h3 h4 W HT.out).mono ?_
  rintro e w1 ⟨rfl, hb1⟩
  rw [HO.out]
  have hbw1 := ext_trans hbW hb1
  clear a0 a1 a2 a3 HT hb1 hbW
  go_wp2
  all_goals go_ret
  all_goals exact ⟨by simp_all, hbw1⟩
set_option maxRecDepth 100000 in
set_option maxHeartbeats 8000000 in
theorem mOver_at (n1 d1 n2 d2 : ByteArray) (h1 : n1.size ≤ maxLen) (h2 : d1.size ≤ maxLen) (h3 : n2.size ≤ maxLen) (h4 : d2.size ≤ maxLen) (h5 : (iN n2 d2).size ≤ maxLen) (h6 : (iD n2 d2).size ≤ maxLen) (w : World) (ht : Tab w) : Calls Tryz.prog 64 #[.agg #[.string n1, .string d1], .agg #[.string n2, .string d2]] w (RPost w (opN (· * ·) n1 d1 (iN n2 d2) (iD n2 d2)) (opD (· * ·) n1 d1 (iN n2 d2) (iD n2 d2))) := by
  have HI := Lib.hid (fun W (hT : Tab W) => refInverse_at n2 d2 h3 h4 W hT)
  generalize iN n2 d2 = p at *
  generalize iD n2 d2 = q at *
  obtain ⟨s, hs⟩ : ∃ s, opN (· * ·) n1 d1 p q = s := ⟨_, rfl⟩
  obtain ⟨t, htt⟩ : ∃ t, opD (· * ·) n1 d1 p q = t := ⟨_, rfl⟩
  have HST := Lib.hid (And.intro hs htt)
  rw [hs, htt]
  clear hs htt
  go_enter Tryz.func64, Tryz.ntmps64
  go_upto_region 1 with (fail)
  refine wp_box3r fun W hsz hbW hA hB hC hF => ?_
  have HT := Lib.hid (ht.ext hbW)
  clear hsz ht
  have a2 : W.cell? ⟨w.heap.size + 1, 0, none⟩ = some (.string n2) := hB.2 0
  have a3 : W.cell? ⟨w.heap.size + 1, 1, none⟩ = some (.string d2) := hB.2 1
  have HX := Lib.hid (And.intro hC (And.intro hF (And.intro hA hbW)))
  clear hA hB hC hF hbW
  go_wp2_with fail
  refine (HI.out W HT.out).mono ?_
  rintro e w1 ⟨rfl, hb1⟩
  have HX1 := Lib.hid (And.intro (HX.out.1.ext hb1) (And.intro (HX.out.2.1.ext HX.out.1 hb1) (And.intro (HX.out.2.2.1.ext hb1) (ext_trans HX.out.2.2.2 hb1))))
  have HT1 := Lib.hid (HT.out.ext hb1)
  clear a2 a3 HX HT hb1
  go_upto_region 2 with (fail)
  refine wp_box1 fun w2 hsz2 hb2 hR => ?_
  have hA2 := HX1.out.2.2.1.ext hb2
  have HX2 := Lib.hid (And.intro (HX1.out.1.ext hb2) (And.intro (HX1.out.2.1.ext HX1.out.1 hb2) (ext_trans HX1.out.2.2.2 hb2)))
  have HT2 := Lib.hid (HT1.out.ext hb2)
  clear hsz2 HX1 hb2 HT1
  generalize w1.heap.size = br at *
  have x0 : w2.cell? ⟨br, 0, none⟩ = some (.string p) := hR.2 0
  have x1 : w2.cell? ⟨br, 1, none⟩ = some (.string q) := hR.2 1
  have a0 : w2.cell? ⟨w.heap.size, 0, none⟩ = some (.string n1) := hA2.2 0
  have a1 : w2.cell? ⟨w.heap.size, 1, none⟩ = some (.string d1) := hA2.2 1
  clear hA2 hR
  go_wp2_with fail
  refine (mTimes_at n1 d1 p q h1 h2 h5 h6 w2 HT2.out).mono ?_
  rintro e w3 ⟨rfl, hb3⟩
  rw [HST.out.1, HST.out.2]
  have hC2 := HX2.out.1.ext hb3
  have hF2 := HX2.out.2.1.ext HX2.out.1 hb3
  have hbw2 := ext_trans HX2.out.2.2 hb3
  have r0 : w3.cell? ⟨w.heap.size + 2, 0, none⟩ = some (.string ⟨#[]⟩) := hC2.2 0
  have r1 : w3.cell? ⟨w.heap.size + 2, 1, none⟩ = some (.string ⟨#[]⟩) := hC2.2 1
  have g0 := hF2 0
  have g1 := hF2 1
  have HR := Lib.hid (res2s (.string s) (.string t) hC2 hbw2 (by omega))
  obtain ⟨hbF, z0, z1⟩ := id HR.out
  clear hC2 hF2 hbw2 hbF x0 x1 a0 a1 HX2
  go_wp2
  exact bodyPost_ret (v := .agg #[.string s, .string t]) (by simp [results, Tryz.results64, go_sem, z0, z1]) rfl ⟨rfl, HR.out.1⟩
set_option maxRecDepth 100000 in
set_option maxHeartbeats 8000000 in
theorem mMinus_at (n1 d1 n2 d2 p q p' q' s t : ByteArray) (_h1 : n1.size ≤ maxLen) (_h2 : d1.size ≤ maxLen) (HW : Hid (∀ w', Tab w' → Calls Tryz.prog 37 #[.int .i64 (-1)] w' (RPost w' p q)))
    (HM : Hid (∀ w', Tab w' → Calls Tryz.prog 67 #[.agg #[.string p, .string q], .agg #[.string n2, .string d2]] w' (RPost w' p' q'))) (HP : Hid (∀ w', Tab w' → Calls Tryz.prog 66 #[.agg #[.string n1, .string d1], .agg #[.string p', .string q']] w' (RPost w' s t)))
    (w : World) (ht : Tab w) : Calls Tryz.prog 44 #[.agg #[.string n1, .string d1], .agg #[.string n2, .string d2]] w (RPost w s t) := by
  go_enter Tryz.func44, Tryz.ntmps44
  go_upto_region 1 with (fail)
  refine wp_box3r fun W hsz hbW hA hB hC hF => ?_
  have HT := Lib.hid (ht.ext hbW)
  clear hsz ht
  have a0 : W.cell? ⟨w.heap.size, 0, none⟩ = some (.string n1) := hA.2 0
  have a1 : W.cell? ⟨w.heap.size, 1, none⟩ = some (.string d1) := hA.2 1
  have a2 : W.cell? ⟨w.heap.size + 1, 0, none⟩ = some (.string n2) := hB.2 0
  have a3 : W.cell? ⟨w.heap.size + 1, 1, none⟩ = some (.string d2) := hB.2 1
  have HX := Lib.hid (And.intro hC (And.intro hF hbW))
  clear hA hB hC hF hbW
  refine Grow.wp_region_grow 5 [TP.eq (.agg #[.string n1, .string d1]), TP.eq (.agg #[.string p, .string q]), TP.eq (.agg #[.string n2, .string d2]), TP.eq (.agg #[.string p', .string q']), TP.eq (.agg #[.string s, .string t])] [[], [], [], [1, 2], [0, 3]] (by kernel_rfl) (by kernel_rfl) ⟨?o0, ?o1, ?o2, ?o3, ?o4, trivial⟩ ?_
  case o0 =>
    intro w' hb
    have a0' : w'.cell? ⟨w.heap.size, 0, none⟩ = some (.string n1) := (hb.cell (World.block_lt_of_cell? _ _ a0)).trans a0
    have a1' : w'.cell? ⟨w.heap.size, 1, none⟩ = some (.string d1) := (hb.cell (World.block_lt_of_cell? _ _ a1)).trans a1
    show wpList _ _ _ _ _ _
    go_wp2
    exact ⟨rfl, Below.refl _ _, rfl⟩
  case o1 =>
    intro w' hb
    show wpList _ _ _ _ _ _
    go_wp2_with fail
    refine (HW.out w' (HT.out.ext hb)).mono ?_
    rintro e wz ⟨rfl, hbz⟩
    go_wp2
    exact ⟨rfl, hbz, rfl⟩
  case o2 =>
    intro w' hb
    have a2' : w'.cell? ⟨w.heap.size + 1, 0, none⟩ = some (.string n2) := (hb.cell (World.block_lt_of_cell? _ _ a2)).trans a2
    have a3' : w'.cell? ⟨w.heap.size + 1, 1, none⟩ = some (.string d2) := (hb.cell (World.block_lt_of_cell? _ _ a3)).trans a3
    show wpList _ _ _ _ _ _
    go_wp2
    exact ⟨rfl, Below.refl _ _, rfl⟩
  case o3 =>
    intro w' hb v1 hv1 v2 hv2
    obtain rfl : v1 = _ := hv1
    obtain rfl : v2 = _ := hv2
    show wpList _ _ _ _ _ _
    simp only [Grow.dstOf, List.getElem?_toArray, List.getElem?_cons_succ, List.getElem?_cons_zero, Option.bind_some, Act.put, List.setIfInBounds_toArray, List.set_cons_succ, List.set_cons_zero]
    go_wp2_with fail
    refine (HM.out w' (HT.out.ext hb)).mono ?_
    rintro e wz ⟨rfl, hbz⟩
    go_wp2
    exact ⟨rfl, hbz, rfl⟩
  case o4 =>
    intro w' hb v1 hv1 v2 hv2
    obtain rfl : v1 = _ := hv1
    obtain rfl : v2 = _ := hv2
    show wpList _ _ _ _ _ _
    simp only [Grow.dstOf, List.getElem?_toArray, List.getElem?_cons_succ, List.getElem?_cons_zero, Option.bind_some, Act.put, List.setIfInBounds_toArray, List.set_cons_succ, List.set_cons_zero]
    go_wp2_with fail
    refine (HP.out w' (HT.out.ext hb)).mono ?_
    rintro e wz ⟨rfl, hbz⟩
    go_wp2
    exact ⟨rfl, hbz, rfl⟩
  intro w7 hb7 v0 h0 v1 h1' v2 h2' v3 h3' v4 h4'
  obtain rfl : v4 = _ := h4'
  clear h0 h1' h2' h3'
  have hC2 := HX.out.1.ext hb7
  have hF2 := HX.out.2.1.ext HX.out.1 hb7
  have hbw2 := ext_trans HX.out.2.2 hb7
  have r0 : w7.cell? ⟨w.heap.size + 2, 0, none⟩ = some (.string ⟨#[]⟩) := hC2.2 0
  have r1 : w7.cell? ⟨w.heap.size + 2, 1, none⟩ = some (.string ⟨#[]⟩) := hC2.2 1
  have g0 := hF2 0
  have g1 := hF2 1
  have HR := Lib.hid (res2s (.string s) (.string t) hC2 hbw2 (by omega))
  obtain ⟨hbF, z0, z1⟩ := id HR.out
  clear hC2 hF2 hbw2 hbF a0 a1 a2 a3 HX
  show wpList _ _ _ _ _ _
  simp only [Act.put, List.setIfInBounds_toArray, List.set_cons_succ, List.set_cons_zero]
  go_wp2
  exact bodyPost_ret (v := .agg #[.string s, .string t]) (by simp [results, Tryz.results44, go_sem, z0, z1]) rfl ⟨rfl, HR.out.1⟩
end Nt
end Go.Proofs.YtgfhbnbmpbhpfaaGreatDoor
namespace Go.Proofs.YtgfhbnbmpbhpfaaGreatDoor
namespace Nm
theorem decS_first (x : Nat) : cutB (decS x) = false := by
  obtain ⟨hd, c, r, h, _⟩ := decS_whl x
  rw [h]
  have := hd c (by rw [h]; simp)
  simp only [cutB]
  apply decide_eq_false
  intro hc
  subst hc
  have h2 : (45 : UInt8).toNat = 45 := rfl
  omega
theorem cut_show (q : Rat) : cutB (showN q).data.toList = decide (q.num < 0) ∧ (cutS (showN q)).data.toList = decS q.num.natAbs := by
  rw [cutS_list]
  unfold showN
  rw [strOf_list]
  unfold numL cutL
  by_cases h : q.num < 0
  · rw [if_pos h]; simp [cutB, h]
  · rw [if_neg h, decS_first]; simp [h]
theorem decS_ne_zero {x : Nat} (h : x ≠ 0) : (decS x == [48]) = false := by
  rw [beq_eq_false_iff_ne]
  intro e
  have := decv_decS x
  rw [e] at this
  exact h this.symm
theorem size_list (s : ByteArray) : s.size = s.data.toList.length := Array.length_toList.symm
theorem back {q : Rat} (h : Fits q) : rF (showN q) (showD q) = 0 ∧ rQ (showN q) (showD q) = q := by
  obtain ⟨h1, h2⟩ := cut_show q
  have hD : (showD q).data.toList = decS q.den := rfl
  have hv1 : decv (cutS (showN q)).data.toList = q.num.natAbs := by rw [h2, decv_decS]
  have hv2 : decv (showD q).data.toList = q.den := by rw [hD, decv_decS]
  constructor
  · unfold rF
    have hb : badR (cutS (showN q)) (showD q) (cutB (showN q).data.toList) = false := by
      unfold badR
      rw [h2, hD, h1, ByteArray.toList_eq, ByteArray.toList_eq, h2, hD, whl_whole (decS_whl _), whl_whole (decS_whl _), decS_ne_zero q.den_nz]
      by_cases hn : q.num < 0
      · rw [decS_ne_zero (by omega)]; simp
      · simp [hn]
    have hl : ¬ largeR (cutS (showN q)) (showD q) := by
      unfold largeR
      rw [size_list, size_list, h2, hD]
      have := h.1
      have := h.2
      omega
    have hg : ¬ (Nat.gcd (decv (cutS (showN q)).data.toList) (decv (showD q).data.toList) ≠ 1) := by
      rw [hv1, hv2]; exact not_not_intro q.reduced
    rw [if_neg (by rw [hb]; simp), if_neg hl, if_neg hg]
  · unfold rQ
    rw [hv1, hv2, h1, sgn_self]
    unfold mkRat
    rw [dif_neg q.den_nz]
    exact Rat.normalize_self q
theorem ext_bytes {s t : ByteArray} (h : s.data.toList = t.data.toList) : s = t := by
  apply ByteArray.ext
  exact Array.toList_inj.1 h
theorem cut_join (n : ByteArray) : n.data.toList = if cutB n.data.toList then 45 :: cutL n.data.toList else cutL n.data.toList := by
  unfold cutL
  cases h : n.data.toList with
  | nil => simp [cutB]
  | cons c r =>
    by_cases hc : c = 45
    · subst hc; simp [cutB]
    · simp [cutB, hc]
theorem show_back {n d : ByteArray} (h : rF n d = 0) : showN (rQ n d) = n ∧ showD (rQ n d) = d ∧ Fits (rQ n d) := by
  obtain ⟨_, h2, h3, h4, h5, h6, h7, h8⟩ := rQ_facts h
  have e1 := whl_eq _ _ (whole_whl h4) rfl
  have e2 := whl_eq _ _ (whole_whl h5) rfl
  have hna : (rQ n d).num.natAbs = decv (cutS n).data.toList := by rw [h2, sgn_natAbs]
  refine ⟨?_, ?_, ?_⟩
  · apply ext_bytes
    unfold showN
    rw [strOf_list]
    unfold numL
    rw [hna, ← e1, cutS_list]
    have hj := cut_join n
    by_cases hn : (rQ n d).num < 0
    · rw [if_pos hn]
      rw [decide_eq_true hn] at h8
      rw [← h8] at hj
      simpa using hj.symm
    · rw [if_neg hn]
      rw [decide_eq_false hn] at h8
      rw [← h8] at hj
      simpa using hj.symm
  · apply ext_bytes
    unfold showD
    rw [strOf_list, h3, ← e2]
  · unfold Fits
    rw [hna, h3, ← e1, ← e2, ← size_list, ← size_list]
    exact ⟨h6, h7⟩
end Nm
end Go.Proofs.YtgfhbnbmpbhpfaaGreatDoor
namespace Go.Proofs.YtgfhbnbmpbhpfaaGreatDoor
namespace Nm
/-- q is m / D, m not above M, of any sign -/
def FZ (D M : Nat) (q : Rat) : Prop := D ≠ 0 ∧ ∃ m : Int, m.natAbs ≤ M ∧ q = mkRat m D
/-- bounds of the numerator and of the denominator -/
def Bd (A B : Nat) (q : Rat) : Prop := q.num.natAbs ≤ A ∧ q.den ≤ B
theorem FZ.zero {D : Nat} (hD : D ≠ 0) (M : Nat) : FZ D M 0 := ⟨hD, 0, Nat.zero_le _, by simp⟩
theorem FZ.mono {D M M' : Nat} {q : Rat} (h : FZ D M q) (hM : M ≤ M') : FZ D M' q := by
  obtain ⟨hD, m, hm, rfl⟩ := h; exact ⟨hD, m, Nat.le_trans hm hM, rfl⟩
theorem FZ.scale {D M : Nat} {q : Rat} (h : FZ D M q) {c : Nat} (hc : c ≠ 0) : FZ (D * c) (M * c) q := by
  obtain ⟨hD, m, hm, rfl⟩ := h
  refine ⟨Nat.mul_ne_zero hD hc, m * (c : Int), ?_, ?_⟩
  · rw [Int.natAbs_mul, Int.natAbs_natCast]; exact Nat.mul_le_mul_right _ hm
  · rw [Rat.mkRat_mul_right hc]
theorem FZ.add {D M N : Nat} {p q : Rat} (h : FZ D M p) (k : FZ D N q) : FZ D (M + N) (p + q) := by
  obtain ⟨hD, m, hm, rfl⟩ := h
  obtain ⟨_, n, hn, rfl⟩ := k
  refine ⟨hD, m + n, by omega, ?_⟩
  rw [Rat.mkRat_add_mkRat _ _ hD hD, ← Int.add_mul, Rat.mkRat_mul_right hD]
theorem FZ.neg {D M : Nat} {q : Rat} (h : FZ D M q) : FZ D M (-q) := by
  obtain ⟨hD, m, hm, rfl⟩ := h
  exact ⟨hD, -m, by omega, by rw [Rat.neg_mkRat]⟩
theorem FZ.sub {D M N : Nat} {p q : Rat} (h : FZ D M p) (k : FZ D N q) : FZ D (M + N) (p - q) := by
  rw [Rat.sub_eq_add_neg]; exact h.add k.neg
theorem FZ.mul {D E M N : Nat} {p q : Rat} (h : FZ D M p) (k : FZ E N q) : FZ (D * E) (M * N) (p * q) := by
  obtain ⟨hD, m, hm, rfl⟩ := h
  obtain ⟨hE, n, hn, rfl⟩ := k
  refine ⟨Nat.mul_ne_zero hD hE, m * n, ?_, ?_⟩
  · rw [Int.natAbs_mul]; exact Nat.mul_le_mul hm hn
  · rw [Rat.mkRat_mul_mkRat]
theorem FZ.int {z : Int} {M : Nat} (h : z.natAbs ≤ M) : FZ 1 M (z : Rat) := ⟨by omega, z, h, by rw [Rat.mkRat_one]⟩
theorem FZ.nat {n M : Nat} (h : n ≤ M) : FZ 1 M ((n : Nat) : Rat) := ⟨by omega, (n : Int), h, by rw [Rat.mkRat_one, Rat.intCast_natCast]⟩
theorem FZ.bd {D M : Nat} {q : Rat} (h : FZ D M q) : Bd M D q := by
  obtain ⟨hD, m, hm, rfl⟩ := h
  have e : mkRat m D = Rat.normalize (sgn (decide (m < 0)) m.natAbs) D hD := by rw [Rat.normalize_eq_mkRat, sgn_self]
  unfold Bd
  rw [e, norm_abs, norm_den]
  exact ⟨Nat.le_trans (Nat.div_le_self _ _) hm, Nat.div_le_self _ _⟩
theorem Bd.mono {A B A' B' : Nat} {q : Rat} (h : Bd A B q) (h1 : A ≤ A') (h2 : B ≤ B') : Bd A' B' q := ⟨Nat.le_trans h.1 h1, Nat.le_trans h.2 h2⟩
theorem Bd.self (q : Rat) : FZ q.den q.num.natAbs q := ⟨q.den_nz, q.num, Nat.le_refl _, (Rat.mkRat_self q).symm⟩
theorem Bd.int {z : Int} {M : Nat} (h : z.natAbs ≤ M) : Bd M 1 (z : Rat) := (FZ.int h).bd
theorem Bd.nat {n M : Nat} (h : n ≤ M) : Bd M 1 ((n : Nat) : Rat) := (FZ.nat h).bd
theorem Bd.mul {A B A' B' : Nat} {p q : Rat} (h : Bd A B p) (k : Bd A' B' q) : Bd (A * A') (B * B') (p * q) :=
  ((Bd.self p).mul (Bd.self q)).bd.mono (Nat.mul_le_mul h.1 k.1) (Nat.mul_le_mul h.2 k.2)
theorem Bd.neg {A B : Nat} {q : Rat} (h : Bd A B q) : Bd A B (-q) := (Bd.self q).neg.bd.mono h.1 h.2
theorem Bd.add {A B A' B' : Nat} {p q : Rat} (h : Bd A B p) (k : Bd A' B' q) : Bd (A * B' + A' * B) (B * B') (p + q) := by
  have h1 := (Bd.self p).scale (c := q.den) q.den_nz
  have h2 := (Bd.self q).scale (c := p.den) p.den_nz
  rw [Nat.mul_comm q.den p.den] at h2
  exact (h1.add h2).bd.mono (Nat.add_le_add (Nat.mul_le_mul h.1 k.2) (Nat.mul_le_mul k.1 h.2)) (Nat.mul_le_mul h.2 k.2)
theorem Bd.sub {A B A' B' : Nat} {p q : Rat} (h : Bd A B p) (k : Bd A' B' q) : Bd (A * B' + A' * B) (B * B') (p - q) := by
  rw [Rat.sub_eq_add_neg]; exact h.add k.neg
theorem Bd.inv {A B : Nat} {q : Rat} (h : Bd A B q) (h0 : q ≠ 0) : Bd B A q⁻¹ := by
  have hn : q.num ≠ 0 := fun e => h0 (Rat.num_eq_zero.1 e)
  obtain ⟨f1, f2, _, _⟩ := inv_facts hn
  exact ⟨by rw [f1]; exact h.2, by rw [f2]; exact h.1⟩
/-- lengths: at most so many digits -/
def Ln (a b : Nat) (q : Rat) : Prop := q.num.natAbs ≤ 10 ^ a ∧ q.den ≤ 10 ^ b
theorem ten_le {a b : Nat} (h : a ≤ b) : 10 ^ a ≤ 10 ^ b := Nat.pow_le_pow_right (by decide) h
theorem ten_two {a b : Nat} : 10 ^ a + 10 ^ b ≤ 10 ^ (max a b + 1) := by
  have h1 : 10 ^ a ≤ 10 ^ max a b := ten_le (Nat.le_max_left _ _)
  have h2 : 10 ^ b ≤ 10 ^ max a b := ten_le (Nat.le_max_right _ _)
  rw [Nat.pow_succ]; omega
theorem Bd.ln {A B a b : Nat} {q : Rat} (h : Bd A B q) (h1 : A ≤ 10 ^ a) (h2 : B ≤ 10 ^ b) : Ln a b q := ⟨Nat.le_trans h.1 h1, Nat.le_trans h.2 h2⟩
theorem FZ.ln {D M a b : Nat} {q : Rat} (h : FZ D M q) (h1 : M ≤ 10 ^ a) (h2 : D ≤ 10 ^ b) : Ln a b q := h.bd.ln h1 h2
theorem Ln.mono {a b a' b' : Nat} {q : Rat} (h : Ln a b q) (h1 : a ≤ a') (h2 : b ≤ b') : Ln a' b' q := ⟨Nat.le_trans h.1 (ten_le h1), Nat.le_trans h.2 (ten_le h2)⟩
theorem Ln.mul {a b a' b' : Nat} {p q : Rat} (h : Ln a b p) (k : Ln a' b' q) : Ln (a + a') (b + b') (p * q) :=
  (Bd.mul h k).ln (by rw [Nat.pow_add]; exact Nat.le_refl _) (by rw [Nat.pow_add]; exact Nat.le_refl _)
theorem Ln.neg {a b : Nat} {q : Rat} (h : Ln a b q) : Ln a b (-q) := Bd.neg h
theorem Ln.add {a b a' b' : Nat} {p q : Rat} (h : Ln a b p) (k : Ln a' b' q) : Ln (max (a + b') (a' + b) + 1) (b + b') (p + q) :=
  (Bd.add h k).ln (by rw [← Nat.pow_add, ← Nat.pow_add]; exact ten_two) (by rw [Nat.pow_add]; exact Nat.le_refl _)
theorem Ln.sub {a b a' b' : Nat} {p q : Rat} (h : Ln a b p) (k : Ln a' b' q) : Ln (max (a + b') (a' + b) + 1) (b + b') (p - q) := by
  rw [Rat.sub_eq_add_neg]; exact h.add k.neg
theorem Ln.inv {a b : Nat} {q : Rat} (h : Ln a b q) (h0 : q ≠ 0) : Ln b a q⁻¹ := Bd.inv h h0
theorem Ln.div {a b a' b' : Nat} {p q : Rat} (h : Ln a b p) (k : Ln a' b' q) (h0 : q ≠ 0) : Ln (a + b') (b + a') (p / q) := by
  rw [Rat.div_def]; exact h.mul (k.inv h0)
theorem Ln.int {z : Int} {a : Nat} (h : z.natAbs ≤ 10 ^ a) : Ln a 0 (z : Rat) := (Bd.int h).ln (Nat.le_refl _) (Nat.le_refl _)
theorem Ln.nat {n a : Nat} (h : n ≤ 10 ^ a) : Ln a 0 ((n : Nat) : Rat) := (Bd.nat h).ln (Nat.le_refl _) (Nat.le_refl _)
end Nm
end Go.Proofs.YtgfhbnbmpbhpfaaGreatDoor
namespace Go.Proofs.YtgfhbnbmpbhpfaaGreatDoor
open Go.RowKit
namespace Nm
theorem cmpQ_neg {x y : Rat} : cmpQ x y < 0 ↔ x < y := by
  rw [Rat.lt_iff]
  unfold cmpQ cmpZ
  constructor
  · intro h
    by_cases h1 : x.num * (y.den : Int) < y.num * (x.den : Int)
    · exact h1
    · rw [if_neg h1] at h
      split at h <;> omega
  · intro h
    rw [if_pos h]; decide
theorem cmpQ_ge {x y : Rat} : 0 ≤ cmpQ x y ↔ y ≤ x := by
  rw [← Rat.not_lt, ← cmpQ_neg]; omega
theorem cmpQ_m1 {x y : Rat} : cmpQ x y = -1 ↔ x < y := by
  rw [← cmpQ_neg]
  rcases cmpQ_range x y with h | h | h <;> omega
theorem fits_of {k : Nat} {q : Rat} (hk : 1 ≤ k) (hk' : k ≤ 4000) (h1 : q.num.natAbs < 10 ^ k) (h2 : q.den < 10 ^ k) : Fits q := ⟨Nat.le_trans (decS_length h1 hk) hk', Nat.le_trans (decS_length h2 hk) hk'⟩
theorem Ln.fits {a b : Nat} {q : Rat} (h : Ln a b q) (h1 : a < 4000) (h2 : b < 4000) : Fits q :=
  fits_of (k := max a b + 1) (by omega) (by omega) (Nat.lt_of_le_of_lt h.1 (Nat.pow_lt_pow_right (by decide) (by omega))) (Nat.lt_of_le_of_lt h.2 (Nat.pow_lt_pow_right (by decide) (by omega)))
/-- the most digits -/
def DM : Nat := 4000
theorem Fits.ln {q : Rat} (h : Fits q) : Ln DM DM q := ⟨Nat.le_of_lt (lt_of_decS (k := DM) h.1), Nat.le_of_lt (lt_of_decS (k := DM) h.2)⟩
theorem fits_int {n : Int} (h : n.natAbs ≤ 10 ^ 200) : Fits (n : Rat) := (Ln.int h).fits (by decide) (by decide)
theorem i64_ten {n : Int} (h1 : -9223372036854775808 ≤ n) (h2 : n ≤ 9223372036854775807) : n.natAbs ≤ 10 ^ 200 := Nat.le_trans (show n.natAbs ≤ 10 ^ 19 by omega) (ten_le (by decide))
theorem fits_neg {q : Rat} (h : Fits q) : Fits (-q) := by
  unfold Fits at *
  rw [Rat.neg_num, Rat.neg_den, Int.natAbs_neg]; exact h
theorem show_size {q : Rat} (h : Fits q) : (showN q).size ≤ maxLen ∧ (showD q).size ≤ maxLen := by
  unfold showN showD numL
  rw [strOf_size, strOf_size]
  have h1 := h.1
  have h2 := h.2
  unfold maxLen
  constructor
  · split
    · simp only [List.length_cons]; omega
    · omega
  · omega
theorem out_fits {q : Rat} (h : Fits q) : outN q = showN q ∧ outD q = showD q ∧ outF q = 0 := by
  unfold outN outD outF
  rw [if_pos h, if_pos h, if_pos h]; exact ⟨rfl, rfl, rfl⟩
theorem bF_show {p q : Rat} (hp : Fits p) (hq : Fits q) : bF (showN p) (showD p) (showN q) (showD q) = 0 := by
  unfold bF
  rw [(back hp).1, if_neg (by simp), (back hq).1]
theorem op_show {op : Rat → Rat → Rat} {p q : Rat} (hp : Fits p) (hq : Fits q) (hs : Fits (op p q)) : opN op (showN p) (showD p) (showN q) (showD q) = showN (op p q) ∧ opD op (showN p) (showD p) (showN q) (showD q) = showD (op p q) := by
  unfold opN opD
  rw [if_pos (bF_show hp hq), if_pos (bF_show hp hq), (back hp).2, (back hq).2, (out_fits hs).1, (out_fits hs).2.1]; exact ⟨rfl, rfl⟩
theorem ord_show {p q : Rat} (hp : Fits p) (hq : Fits q) : ordV (showN p) (showD p) (showN q) (showD q) = cmpQ p q := by
  unfold ordV
  rw [if_pos (bF_show hp hq), (back hp).2, (back hq).2]
theorem inv_show {q : Rat} (hq : Fits q) (h0 : q ≠ 0) : iN (showN q) (showD q) = showN q⁻¹ ∧ iD (showN q) (showD q) = showD q⁻¹ ∧ Fits q⁻¹ := by
  have hn : q.num ≠ 0 := fun e => h0 (Rat.num_eq_zero.1 e)
  have hi : Fits q⁻¹ := by
    obtain ⟨f1, f2, _, _⟩ := inv_facts hn
    unfold Fits
    rw [f1, f2]; exact ⟨hq.2, hq.1⟩
  unfold iN iD
  rw [(back hq).1, (back hq).2]
  simp only [ne_eq, not_true_eq_false, if_false, hn]
  exact ⟨(out_fits hi).1, (out_fits hi).2.1, hi⟩
theorem quoQ_one (n : Int) : quoQ n 1 = (n : Rat) := by
  unfold quoQ
  rw [dif_neg (by decide)]
  have h : (decide (n < 0) != decide ((1 : Int) < 0)) = decide (n < 0) := by simp
  rw [Rat.normalize_eq_mkRat, h, sgn_self]
  exact Rat.mkRat_one n
theorem quo_one {n : Int} (h : n.natAbs ≤ 10 ^ 200) : quoN n 1 = showN (n : Rat) ∧ quoD n 1 = showD (n : Rat) := by
  unfold quoN quoD
  rw [if_neg (by decide), if_neg (by decide), quoQ_one, (out_fits (fits_int h)).1, (out_fits (fits_int h)).2.1]; exact ⟨rfl, rfl⟩
end Nm
namespace Nt
open _root_.Go.Proofs.YtgfhbnbmpbhpfaaGreatDoor.Nm (showN showD Fits show_size op_show ord_show inv_show quo_one fits_int fits_neg cmpQ cmpQ_neg i64_ten)
/-- a ratio as a value -/
abbrev rtV (q : Rat) : Value := .agg #[.string (showN q), .string (showD q)]
def RtP (w : World) (q : Rat) (e : Ending) (w' : World) : Prop := e = .returned (rtV q) ∧ Below w.heap.size w w'
theorem mWholeQ (n : Int) (h1 : -9223372036854775808 ≤ n) (h2 : n ≤ 9223372036854775807) (w : World) (ht : Tab w) : Calls Tryz.prog 37 #[.int .i64 n] w (RtP w (n : Rat)) := by
  have h := mWhole_at n h1 h2 w ht
  have hb := i64_ten h1 h2
  rw [(quo_one hb).1, (quo_one hb).2] at h
  exact h
theorem mPlusQ (p q : Rat) (hp : Fits p) (hq : Fits q) (hs : Fits (p + q)) (w : World) (ht : Tab w) : Calls Tryz.prog 66 #[rtV p, rtV q] w (RtP w (p + q)) := by
  have h := mPlus_at _ _ _ _ (show_size hp).1 (show_size hp).2 (show_size hq).1 (show_size hq).2 w ht
  rw [(op_show (op := (· + ·)) hp hq hs).1, (op_show (op := (· + ·)) hp hq hs).2] at h
  exact h
theorem mTimesQ (p q : Rat) (hp : Fits p) (hq : Fits q) (hs : Fits (p * q)) (w : World) (ht : Tab w) : Calls Tryz.prog 67 #[rtV p, rtV q] w (RtP w (p * q)) := by
  have h := mTimes_at _ _ _ _ (show_size hp).1 (show_size hp).2 (show_size hq).1 (show_size hq).2 w ht
  rw [(op_show (op := (· * ·)) hp hq hs).1, (op_show (op := (· * ·)) hp hq hs).2] at h
  exact h
theorem mOverQ (p q : Rat) (hp : Fits p) (hq : Fits q) (h0 : q ≠ 0) (hs : Fits (p / q)) (w : World) (ht : Tab w) : Calls Tryz.prog 64 #[rtV p, rtV q] w (RtP w (p / q)) := by
  obtain ⟨e1, e2, hi⟩ := inv_show hq h0
  rw [Rat.div_def] at hs ⊢
  have h := mOver_at (showN p) (showD p) (showN q) (showD q) (show_size hp).1 (show_size hp).2 (show_size hq).1 (show_size hq).2 (by rw [e1]; exact (show_size hi).1) (by rw [e2]; exact (show_size hi).2) w ht
  rw [e1, e2, (op_show (op := (· * ·)) hp hi hs).1, (op_show (op := (· * ·)) hp hi hs).2] at h
  exact h
theorem mMinusQ (p q : Rat) (hp : Fits p) (hq : Fits q) (hs : Fits (p - q)) (w : World) (ht : Tab w) : Calls Tryz.prog 44 #[rtV p, rtV q] w (RtP w (p - q)) := by
  have e : ((-1 : Int) : Rat) * q = -q := by
    have : ((-1 : Int) : Rat) = -1 := by decide
    rw [this]; grind
  refine mMinus_at (showN p) (showD p) (showN q) (showD q) (showN ((-1 : Int) : Rat)) (showD ((-1 : Int) : Rat)) (showN (-q)) (showD (-q)) (showN (p - q)) (showD (p - q)) (show_size hp).1 (show_size hp).2 (Lib.hid fun w' h' => mWholeQ (-1) (by decide) (by decide) w' h') (Lib.hid fun w' h' => ?_) (Lib.hid fun w' h' => ?_) w ht
  · have h := mTimesQ ((-1 : Int) : Rat) q (fits_int (by decide)) hq (by rw [e]; exact fits_neg hq) w' h'
    rw [e] at h
    exact h
  · rw [Rat.sub_eq_add_neg] at hs ⊢
    exact mPlusQ p (-q) hp (fits_neg hq) hs w' h'
theorem mLessQ (p q : Rat) (hp : Fits p) (hq : Fits q) (w : World) (ht : Tab w) : Calls Tryz.prog 35 #[rtV p, rtV q] w (fun e w' => e = .returned (.bool (decide (p < q))) ∧ Below w.heap.size w w') := by
  have h := mLess_at _ _ _ _ (show_size hp).1 (show_size hp).2 (show_size hq).1 (show_size hq).2 w ht
  rw [ord_show hp hq] at h
  have e : decide (cmpQ p q < 0) = decide (p < q) := by
    by_cases hl : p < q
    · rw [decide_eq_true hl, decide_eq_true (cmpQ_neg.2 hl)]
    · rw [decide_eq_false hl, decide_eq_false (fun h' => hl (cmpQ_neg.1 h'))]
  rw [e] at h
  exact h
end Nt
end Go.Proofs.YtgfhbnbmpbhpfaaGreatDoor
