/- Order of the reference. Printed by gen_rrat9.py. Whole, Plus, Times, Minus, Over, Less of the references: on texts. Printed by gen_rm.py. What is written is read back; the plain law of RatiosAddUp. Plain: how long the numbers of a calculation can be. No program stands in it. -/
import Derived.Test.YtemenlcigengeaaGreatDoorTq34
import Derived.Test.YtemenlcigengeaaGreatDoorTq18
import Derived.Test.YtemenlcigengeaaGreatDoorTq16
namespace Go.Proofs.YtemenlcigengeaaGreatDoor
open Go.RowKit
namespace Nt
open _root_.Go.Proofs.YtemenlcigengeaaGreatDoor.Nm (rF rQ sgn outN outD outF AnsPost bF zeroX cmpQ ordV OrdPost)
theorem cmpN_range (x y : Nat) : -1 ≤ cmpN x y ∧ cmpN x y ≤ 1 := Nm.cmpN_range x y
set_option maxRecDepth 100000 in
set_option maxHeartbeats 16000000 in
theorem refOrder_at (n1 d1 n2 d2 : ByteArray) (h1 : n1.size ≤ maxLen) (h2 : d1.size ≤ maxLen) (h3 : n2.size ≤ maxLen) (h4 : d2.size ≤ maxLen) (w : World) (ht : Tab w) : Calls Tryz.prog 58 #[.agg #[.string n1, .string d1], .agg #[.string n2, .string d2]] w (OrdPost w n1 d1 n2 d2) := by
  have HO : Hid (ordV n1 d1 n2 d2 = if bF n1 d1 n2 d2 = 0 then cmpQ (rQ n1 d1) (rQ n2 d2) else 0) := Lib.hid rfl
  have HF : Hid (OrdPost w n1 d1 n2 d2 = fun e w' => e = .returned (.tuple #[.int .i64 (ordV n1 d1 n2 d2), .int .i64 (bF n1 d1 n2 d2)]) ∧ Below w.heap.size w w') := Lib.hid rfl
  rw [HF.out]
  clear HF
  generalize ordV n1 d1 n2 d2 = ov at *
  go_enter Tryz.func58, Tryz.ntmps58
  go_upto_region 1 with (fail)
  refine wp_box2 fun W hsz hbW hA hB => ?_
  have HT := Lib.hid (ht.ext hbW)
  clear hsz ht
  have a0 : W.cell? ⟨w.heap.size, 0, none⟩ = some (.string n1) := hA.2 0
  have a1 : W.cell? ⟨w.heap.size, 1, none⟩ = some (.string d1) := hA.2 1
  have a2 : W.cell? ⟨w.heap.size + 1, 0, none⟩ = some (.string n2) := hB.2 0
  have a3 : W.cell? ⟨w.heap.size + 1, 1, none⟩ = some (.string d2) := hB.2 1
  go_wp2_with fail
  refine (refBoth_at n1 d1 n2 d2 h1 h2 h3 h4 W HT.out).mono ?_
  rintro e w1 ⟨rfl, hb1⟩
  have hA1 := hA.ext hb1
  have hB1 := hB.ext hb1
  have hbw1 := ext_trans hbW hb1
  clear hA hB hbW hb1 a0 a1 a2 a3 HT
  have a0 : w1.cell? ⟨w.heap.size, 0, none⟩ = some (.string n1) := hA1.2 0
  have a1 : w1.cell? ⟨w.heap.size, 1, none⟩ = some (.string d1) := hA1.2 1
  have a2 : w1.cell? ⟨w.heap.size + 1, 0, none⟩ = some (.string n2) := hB1.2 0
  have a3 : w1.cell? ⟨w.heap.size + 1, 1, none⟩ = some (.string d2) := hB1.2 1
  clear hA1 hB1
  have HB := Lib.hid hbw1
  clear hbw1
  by_cases hz : bF n1 d1 n2 d2 = 0
  · have hne : (bF n1 d1 n2 d2 != 0) = false := by simp [hz]
    obtain ⟨e1, e2⟩ := bF_zero hz
    have HO1 := Lib.hid (fun w' => open_is n1 d1 h1 e1 w')
    have HO2 := Lib.hid (fun w' => open_is n2 d2 h3 e2 w')
    have HS1 := Lib.hid (small_digs9 e1)
    have HS2 := Lib.hid (small_digs9 e2)
    have HO2' : Hid (ov = cmpQ (rQ n1 d1) (rQ n2 d2)) := by have := HO.out; rw [if_pos hz] at this; exact this
    have HZ := Lib.hid hz
    generalize rQ n1 d1 = q1 at *
    generalize rQ n2 d2 = q2 at *
    have hw1 := HS1.out.1
    have hw2 := HS1.out.2
    have hw3 := HS2.out.1
    have hw4 := HS2.out.2
    clear hz HO e1 e2 HS1 HS2
    go_upto_region 4 with (fail)
    refine Grow.wp_region_grow2 6 [.is (TP.eq (.agg #[.string n1, .string d1])), .is (TP.frac (decide (q1.num < 0)) q1.num.natAbs q1.den), .is (TP.eq (.agg #[.string n2, .string d2])), .is (TP.frac (decide (q2.num < 0)) q2.num.natAbs q2.den), .new zeroX, .new zeroX] [[], [0], [], [2], [], []] (by kernel_rfl) (by kernel_rfl) ⟨?p0, ?p1, ?p2, ?p3, ?p4, ?p5, trivial⟩ ?_
    case p0 =>
      intro w' hb
      have ca : w'.cell? ⟨w.heap.size, 0, none⟩ = some (.string n1) := (hb.cell (World.block_lt_of_cell? _ _ a0)).trans a0
      have cb : w'.cell? ⟨w.heap.size, 1, none⟩ = some (.string d1) := (hb.cell (World.block_lt_of_cell? _ _ a1)).trans a1
      show wpList _ _ _ _ _ _
      go_wp2
      exact ⟨rfl, Below.refl _ _, rfl⟩
    case p1 =>
      intro w' hb v1 hv1
      obtain rfl : v1 = _ := hv1
      show wpList _ _ _ _ _ _
      simp only [Grow.dstOf, List.getElem?_toArray, List.getElem?_cons_zero, Option.bind_some, Act.put, List.setIfInBounds_toArray, List.set_cons_succ, List.set_cons_zero]
      go_wp2_with fail
      refine (HO1.out w').mono ?_
      rintro e wz ⟨z1, z2, rfl, hx1, hx2, hbz⟩
      have HX1 := Lib.hid hx1
      have HX2 := Lib.hid hx2
      clear hx1 hx2
      go_wp2
      exact ⟨⟨_, _, rfl, HX1.out, HX2.out⟩, hbz, rfl⟩
    case p2 =>
      intro w' hb
      have ca : w'.cell? ⟨w.heap.size + 1, 0, none⟩ = some (.string n2) := (hb.cell (World.block_lt_of_cell? _ _ a2)).trans a2
      have cb : w'.cell? ⟨w.heap.size + 1, 1, none⟩ = some (.string d2) := (hb.cell (World.block_lt_of_cell? _ _ a3)).trans a3
      show wpList _ _ _ _ _ _
      go_wp2
      exact ⟨rfl, Below.refl _ _, rfl⟩
    case p3 =>
      intro w' hb v1 hv1
      obtain rfl : v1 = _ := hv1
      show wpList _ _ _ _ _ _
      simp only [Grow.dstOf, List.getElem?_toArray, List.getElem?_cons_succ, List.getElem?_cons_zero, Option.bind_some, Act.put, List.setIfInBounds_toArray, List.set_cons_succ, List.set_cons_zero]
      go_wp2_with fail
      refine (HO2.out w').mono ?_
      rintro e wz ⟨z1, z2, rfl, hx1, hx2, hbz⟩
      have HX1 := Lib.hid hx1
      have HX2 := Lib.hid hx2
      clear hx1 hx2
      go_wp2
      exact ⟨⟨_, _, rfl, HX1.out, HX2.out⟩, hbz, rfl⟩
    case p4 =>
      intro w' hb
      show wpList _ _ _ _ _ _
      go_wp2
      exact ⟨⟨_, rfl, Nat.le_refl _, Box.new _ _ _, Fre.new _ _ _⟩, ext_alloc _ _, rfl⟩
    case p5 =>
      intro w' hb
      show wpList _ _ _ _ _ _
      go_wp2
      exact ⟨⟨_, rfl, Nat.le_refl _, Box.new _ _ _, Fre.new _ _ _⟩, ext_alloc _ _, rfl⟩
    intro w7 hb7 v0 h0 v1 h1 v2 h2 v3 h3 v4 h4 v5 h5 hpw
    have hne : v4 ≠ v5 := hpw 4 5 (by omega) (by omega) (by omega) rfl rfl
    have g1 : ∃ u1 u2, v1 = .agg #[.bool (decide (q1.num < 0)), u1, u2] ∧ N w7 u1 q1.num.natAbs ∧ N w7 u2 q1.den := h1
    have g3 : ∃ u1 u2, v3 = .agg #[.bool (decide (q2.num < 0)), u1, u2] ∧ N w7 u1 q2.num.natAbs ∧ N w7 u2 q2.den := h3
    have g4 : ∃ g, v4 = .pointer (some ⟨g, 0, none⟩) ∧ w1.heap.size ≤ g ∧ Box w7 g zeroX ∧ Fre w7 g := h4
    have g5 : ∃ g, v5 = .pointer (some ⟨g, 0, none⟩) ∧ w1.heap.size ≤ g ∧ Box w7 g zeroX ∧ Fre w7 g := h5
    clear h0 h1 h2 h3 h4 h5 hpw
    obtain ⟨u1, u2, rfl, k1, k2⟩ := g1
    obtain ⟨u3, u4, rfl, k3, k4⟩ := g3
    obtain ⟨g, rfl, hgl, hgB, hgF⟩ := g4
    obtain ⟨g', rfl, hgl', hgB', hgF'⟩ := g5
    have hgg : g ≠ g' := fun e => hne (by rw [e])
    have hgg' : g' ≠ g := fun e => hgg e.symm
    obtain ⟨m1, c1, rfl, _⟩ := k1.open_
    obtain ⟨m2, c2, rfl, _⟩ := k2.open_
    obtain ⟨m3, c3, rfl, _⟩ := k3.open_
    obtain ⟨m4, c4, rfl, _⟩ := k4.open_
    have HP := Lib.hid (pairSet (b := decide (q1.num < 0)) (b' := decide (q2.num < 0)) hgB hgB' hgg k1 k2 k3 k4 hb7 hgl hgl')
    obtain ⟨r0, r1, r2⟩ := Nm.boxX hgB
    obtain ⟨r3, r4, r5⟩ := Nm.boxX hgB'
    have f0 := hgF 0
    have f1 := hgF 1
    have f2 := hgF 2
    have f3 := hgF' 0
    have f4 := hgF' 1
    have f5 := hgF' 2
    clear hne k1 k2 k3 k4 hgB hgF hgB' hgF' hb7
    show wpList _ _ _ _ _ _
    simp only [Act.put, List.setIfInBounds_toArray, List.set_cons_succ, List.set_cons_zero]
    go_upto_region 5 with (fail)
    clear r0 r1 r2 r3 r4 r5 f0 f1 f2 f3 f4 f5
    obtain ⟨X, hX⟩ : ∃ X, X = (((((w7.setCell ⟨g, 0, none⟩ (.bool (decide (q1.num < 0)))).setCell ⟨g, 1, none⟩ (.slice m1 (digs q1.num.natAbs).length c1)).setCell ⟨g, 2, none⟩ (.slice m2 (digs q1.den).length c2)).setCell ⟨g', 0, none⟩ (.bool (decide (q2.num < 0)))).setCell ⟨g', 1, none⟩ (.slice m3 (digs q2.num.natAbs).length c3)).setCell ⟨g', 2, none⟩ (.slice m4 (digs q2.den).length c4) := ⟨_, rfl⟩
    rw [← hX]
    have HPX : Hid ((Box X g #[.bool (decide (q1.num < 0)), .slice m1 (digs q1.num.natAbs).length c1, .slice m2 (digs q1.den).length c2] ∧ Box X g' #[.bool (decide (q2.num < 0)), .slice m3 (digs q2.num.natAbs).length c3, .slice m4 (digs q2.den).length c4]) ∧ (N X (.slice m1 (digs q1.num.natAbs).length c1) q1.num.natAbs ∧ N X (.slice m2 (digs q1.den).length c2) q1.den ∧ N X (.slice m3 (digs q2.num.natAbs).length c3) q2.num.natAbs ∧ N X (.slice m4 (digs q2.den).length c4) q2.den) ∧ Below w1.heap.size w1 X) := by
      have h := HP.out
      rw [hX]
      exact Lib.hid h
    clear hX HP hgg hgg'
    obtain ⟨⟨hbx, hby⟩, ⟨hn1, hn2, hn3, hn4⟩, hbX⟩ := id HPX.out
    have HNX := Lib.hid (And.intro hn1 (And.intro hn2 (And.intro hn3 hn4)))
    have x0 : X.cell? ⟨g, 0, none⟩ = some (.bool (decide (q1.num < 0))) := hbx.2 0
    have x1 : X.cell? ⟨g, 1, none⟩ = some (.slice m1 (digs q1.num.natAbs).length c1) := hbx.2 1
    have x2 : X.cell? ⟨g, 2, none⟩ = some (.slice m2 (digs q1.den).length c2) := hbx.2 2
    have y0 : X.cell? ⟨g', 0, none⟩ = some (.bool (decide (q2.num < 0))) := hby.2 0
    have y1 : X.cell? ⟨g', 1, none⟩ = some (.slice m3 (digs q2.num.natAbs).length c3) := hby.2 1
    have y2 : X.cell? ⟨g', 2, none⟩ = some (.slice m4 (digs q2.den).length c4) := hby.2 2
    clear hbx hby hn1 hn2 hn3 hn4 HPX
    clear a0 a1 a2 a3 HO1 HO2
    obtain ⟨L, HL⟩ : ∃ L, Hid (L = q1.num.natAbs * q2.den) := ⟨_, Lib.hid rfl⟩
    obtain ⟨R, HR⟩ : ∃ R, Hid (R = q2.num.natAbs * q1.den) := ⟨_, Lib.hid rfl⟩
    have HS : Hid (decide (q1.num < 0) = decide (q2.num < 0) → cmpQ q1 q2 = if q1.num < 0 then - cmpN L R else cmpN L R) := Lib.hid (fun h => by rw [HL.out, HR.out]; exact Nm.cmpQ_same h)
    have HBe : Hid (q1.num < 0 → ¬ q2.num < 0 → cmpQ q1 q2 = -1) := Lib.hid Nm.cmpQ_below
    have HAb : Hid (¬ q1.num < 0 → q2.num < 0 → cmpQ q1 q2 = 1) := Lib.hid Nm.cmpQ_above
    obtain ⟨b1, hb1⟩ : ∃ b, decide (q1.num < 0) = b := ⟨_, rfl⟩
    obtain ⟨b2, hb2⟩ : ∃ b, decide (q2.num < 0) = b := ⟨_, rfl⟩
    have HBB := Lib.hid (And.intro hb1 hb2)
    rw [hb1] at x0 ⊢
    rw [hb2] at y0 ⊢
    clear hb1 hb2
    by_cases hbb : b1 = b2
    · subst hbb
      have hq : (b1 != b1) = false := by simp
      have HV := Lib.hid (HS.out (HBB.out.1.trans HBB.out.2.symm))
      obtain ⟨C, hC⟩ : ∃ C, cmpN L R = C := ⟨_, rfl⟩
      have hCr : -1 ≤ C ∧ C ≤ 1 := by rw [← hC]; exact cmpN_range L R
      have HCC := Lib.hid hC
      obtain ⟨hC1, hC2⟩ := hCr
      clear hC HS HBe HAb
      go_upto_region 9 with (fail)
      refine Grow.wp_region_grow 11 [TP.eq (.pointer (some ⟨g, 1, none⟩)), TP.eq (.slice m1 (digs q1.num.natAbs).length c1), TP.eq (.pointer (some ⟨g', 2, none⟩)), TP.eq (.slice m4 (digs q2.den).length c4), TP.nat L, TP.eq (.pointer (some ⟨g', 1, none⟩)), TP.eq (.slice m3 (digs q2.num.natAbs).length c3), TP.eq (.pointer (some ⟨g, 2, none⟩)), TP.eq (.slice m2 (digs q1.den).length c2), TP.nat R, TP.eq (.int .i64 C)] [[], [0], [], [2], [1, 3], [], [5], [], [7], [6, 8], [4, 9]] (by kernel_rfl) (by kernel_rfl) ⟨?r0, ?r1, ?r2, ?r3, ?r4, ?r5, ?r6, ?r7, ?r8, ?r9, ?r10, trivial⟩ ?_
      case r0 =>
        intro w' hb
        show wpList _ _ _ _ _ _
        go_wp2
        exact ⟨rfl, Below.refl _ _, rfl⟩
      case r1 =>
        intro w' hb v1 hv1
        obtain rfl : v1 = _ := hv1
        have ca : w'.cell? ⟨g, 1, none⟩ = some (.slice m1 (digs q1.num.natAbs).length c1) := (hb.cell (World.block_lt_of_cell? _ _ x1)).trans x1
        show wpList _ _ _ _ _ _
        simp only [Grow.dstOf, List.getElem?_toArray, List.getElem?_cons_zero, Option.bind_some, Act.put, List.setIfInBounds_toArray, List.set_cons_succ, List.set_cons_zero]
        go_wp2
        exact ⟨rfl, Below.refl _ _, rfl⟩
      case r2 =>
        intro w' hb
        show wpList _ _ _ _ _ _
        go_wp2
        exact ⟨rfl, Below.refl _ _, rfl⟩
      case r3 =>
        intro w' hb v1 hv1
        obtain rfl : v1 = _ := hv1
        have ca : w'.cell? ⟨g', 2, none⟩ = some (.slice m4 (digs q2.den).length c4) := (hb.cell (World.block_lt_of_cell? _ _ y2)).trans y2
        show wpList _ _ _ _ _ _
        simp only [Grow.dstOf, List.getElem?_toArray, List.getElem?_cons_succ, List.getElem?_cons_zero, Option.bind_some, Act.put, List.setIfInBounds_toArray, List.set_cons_succ, List.set_cons_zero]
        go_wp2
        exact ⟨rfl, Below.refl _ _, rfl⟩
      case r4 =>
        intro w' hb v1 hv1 v2 hv2
        obtain rfl : v1 = _ := hv1
        obtain rfl : v2 = _ := hv2
        show wpList _ _ _ _ _ _
        simp only [Grow.dstOf, List.getElem?_toArray, List.getElem?_cons_succ, List.getElem?_cons_zero, Option.bind_some, Act.put, List.setIfInBounds_toArray, List.set_cons_succ, List.set_cons_zero]
        go_wp2_with fail
        refine (times_at (q1.num.natAbs) (q2.den) _ _ w' (HNX.out.1.ext hb) (HNX.out.2.2.2.ext hb) (by omega) (by omega)).mono ?_
        rintro e wz ⟨vz, rfl, hxz, hbz⟩
        rw [← HL.out] at hxz
        have HXZ := Lib.hid hxz
        clear hxz
        go_wp2
        exact ⟨HXZ.out, hbz, rfl⟩
      case r5 =>
        intro w' hb
        show wpList _ _ _ _ _ _
        go_wp2
        exact ⟨rfl, Below.refl _ _, rfl⟩
      case r6 =>
        intro w' hb v1 hv1
        obtain rfl : v1 = _ := hv1
        have ca : w'.cell? ⟨g', 1, none⟩ = some (.slice m3 (digs q2.num.natAbs).length c3) := (hb.cell (World.block_lt_of_cell? _ _ y1)).trans y1
        show wpList _ _ _ _ _ _
        simp only [Grow.dstOf, List.getElem?_toArray, List.getElem?_cons_succ, List.getElem?_cons_zero, Option.bind_some, Act.put, List.setIfInBounds_toArray, List.set_cons_succ, List.set_cons_zero]
        go_wp2
        exact ⟨rfl, Below.refl _ _, rfl⟩
      case r7 =>
        intro w' hb
        show wpList _ _ _ _ _ _
        go_wp2
        exact ⟨rfl, Below.refl _ _, rfl⟩
      case r8 =>
        intro w' hb v1 hv1
        obtain rfl : v1 = _ := hv1
        have ca : w'.cell? ⟨g, 2, none⟩ = some (.slice m2 (digs q1.den).length c2) := (hb.cell (World.block_lt_of_cell? _ _ x2)).trans x2
        show wpList _ _ _ _ _ _
        simp only [Grow.dstOf, List.getElem?_toArray, List.getElem?_cons_succ, List.getElem?_cons_zero, Option.bind_some, Act.put, List.setIfInBounds_toArray, List.set_cons_succ, List.set_cons_zero]
        go_wp2
        exact ⟨rfl, Below.refl _ _, rfl⟩
      case r9 =>
        intro w' hb v1 hv1 v2 hv2
        obtain rfl : v1 = _ := hv1
        obtain rfl : v2 = _ := hv2
        show wpList _ _ _ _ _ _
        simp only [Grow.dstOf, List.getElem?_toArray, List.getElem?_cons_succ, List.getElem?_cons_zero, Option.bind_some, Act.put, List.setIfInBounds_toArray, List.set_cons_succ, List.set_cons_zero]
        go_wp2_with fail
        refine (times_at (q2.num.natAbs) (q1.den) _ _ w' (HNX.out.2.2.1.ext hb) (HNX.out.2.1.ext hb) (by omega) (by omega)).mono ?_
        rintro e wz ⟨vz, rfl, hxz, hbz⟩
        rw [← HR.out] at hxz
        have HXZ := Lib.hid hxz
        clear hxz
        go_wp2
        exact ⟨HXZ.out, hbz, rfl⟩
      case r10 =>
        intro w' hb v1 hv1 v2 hv2
        have hk : N w' v1 L := hv1
        have hk2 : N w' v2 R := hv2
        obtain ⟨m8, c8, rfl, _⟩ := hk.open_
        obtain ⟨m9, c9, rfl, _⟩ := hk2.open_
        have HK := Lib.hid hk
        have HK2 := Lib.hid hk2
        clear hv1 hk hv2 hk2
        show wpList _ _ _ _ _ _
        simp only [Grow.dstOf, List.getElem?_toArray, List.getElem?_cons_succ, List.getElem?_cons_zero, Option.bind_some, Act.put, List.setIfInBounds_toArray, List.set_cons_succ, List.set_cons_zero]
        go_wp2_with fail
        refine (order_at L R _ _ w' HK.out HK2.out).mono ?_
        rw [HCC.out]
        rintro e wz ⟨rfl, kq, hwq⟩
        have hbz : Below w'.heap.size w' wz := by rw [hwq]; exact below_drewN (Below.refl _ _) kq
        clear hwq
        go_wp2
        exact ⟨rfl, hbz, rfl⟩
      intro w8 hb8 v0 h0 v1 h1 v2 h2 v3 h3 v4 h4 v5 h5 v6 h6 v7 h7 v8 h8 v9 h9 v10 h10
      obtain rfl : v10 = _ := h10
      clear h0 h1 h2 h3 h4 h5 h6 h7 h8 h9
      have s0 : w8.cell? ⟨g, 0, none⟩ = some (.bool b1) := (hb8.cell (World.block_lt_of_cell? _ _ x0)).trans x0
      have hbw8 := ext_trans HB.out (ext_trans hbX hb8)
      clear x0 x1 x2 y0 y1 y2 hb8 hbX HB HNX
      show wpList _ _ _ _ _ _
      simp only [Act.put, List.setIfInBounds_toArray, List.set_cons_succ, List.set_cons_zero]
      cases b1 with
      | true =>
        have HV2 : Hid (ov = -C) := by
          have := HV.out; rw [if_pos (of_decide_eq_true HBB.out.1), HCC.out] at this
          exact Lib.hid (HO2'.out.trans this)
        clear HV HCC HBB
        go_wp2
        exact bodyPost_ret (v := .tuple #[.int .i64 (-C), .int .i64 0]) (by simp [results, Tryz.results58, go_sem]) rfl ⟨by rw [HV2.out, HZ.out], hbw8⟩
      | false =>
        have HV2 : Hid (ov = C) := by
          have := HV.out; rw [if_neg (of_decide_eq_false HBB.out.1), HCC.out] at this
          exact Lib.hid (HO2'.out.trans this)
        clear HV HCC HBB
        go_wp2
        exact bodyPost_ret (v := .tuple #[.int .i64 (C), .int .i64 0]) (by simp [results, Tryz.results58, go_sem]) rfl ⟨by rw [HV2.out, HZ.out], hbw8⟩
    · have hq : (b1 != b2) = true := by simp [hbb]
      have hbw8 := Lib.hid (ext_trans HB.out hbX)
      clear hbX HB HNX HS
      cases b1 with
      | true =>
        have hb2f : b2 = false := by cases b2 <;> simp_all
        have HV2 : Hid (ov = -1) := Lib.hid (HO2'.out.trans (HBe.out (of_decide_eq_true HBB.out.1) (of_decide_eq_false (HBB.out.2.trans hb2f))))
        clear HBe HAb HBB
        subst hb2f
        go_wp2
        exact bodyPost_ret (v := .tuple #[.int .i64 (-1), .int .i64 0]) (by simp [results, Tryz.results58, go_sem]) rfl ⟨by rw [HV2.out, HZ.out], hbw8.out⟩
      | false =>
        have hb2f : b2 = true := by cases b2 <;> simp_all
        have HV2 : Hid (ov = 1) := Lib.hid (HO2'.out.trans (HAb.out (of_decide_eq_false HBB.out.1) (of_decide_eq_true (HBB.out.2.trans hb2f))))
        clear HBe HAb HBB
        subst hb2f
        go_wp2
        exact bodyPost_ret (v := .tuple #[.int .i64 (1), .int .i64 0]) (by simp [results, Tryz.results58, go_sem]) rfl ⟨by rw [HV2.out, HZ.out], hbw8.out⟩
  · have hne : (bF n1 d1 n2 d2 != 0) = true := by simp [hz]
    have HV2 : Hid (ov = 0) := by have := HO.out; rw [if_neg hz] at this; exact this
    clear hz HO
    go_wp2
    exact bodyPost_ret (v := .tuple #[.int .i64 0, .int .i64 (bF n1 d1 n2 d2)]) (by simp [results, Tryz.results58, go_sem]) rfl ⟨by rw [HV2.out], HB.out⟩
end Nt
end Go.Proofs.YtemenlcigengeaaGreatDoor
namespace Go.Proofs.YtemenlcigengeaaGreatDoor
open Go.RowKit
namespace Nt
open _root_.Go.Proofs.YtemenlcigengeaaGreatDoor.Nm (rF rQ sgn outN outD outF AnsPost bF quoN quoD quoF ordV OrdPost)
/-- a call that returns a ratio -/
def RPost (w : World) (s t : ByteArray) (e : Ending) (w' : World) : Prop := e = .returned (.agg #[.string s, .string t]) ∧ Below w.heap.size w w'
set_option maxRecDepth 100000 in
set_option maxHeartbeats 8000000 in
theorem mWhole_at (n : Int) (h1 : -9223372036854775808 ≤ n) (h2 : n ≤ 9223372036854775807) (w : World) (ht : Tab w) : Calls Tryz.prog 26 #[.int .i64 n] w (RPost w (quoN n 1) (quoD n 1)) := by
  obtain ⟨s, hs⟩ : ∃ s, quoN n 1 = s := ⟨_, rfl⟩
  obtain ⟨t, htt⟩ : ∃ t, quoD n 1 = t := ⟨_, rfl⟩
  have HST := Lib.hid (And.intro hs htt)
  rw [hs, htt]
  clear hs htt
  go_enter Tryz.func26, Tryz.ntmps26
  go_upto_region 1 with (fail)
  refine wp_box1r fun W hsz hbW hC hF => ?_
  have HT := Lib.hid (ht.ext hbW)
  clear hsz ht
  have HX := Lib.hid (And.intro hC (And.intro hF hbW))
  clear hC hF hbW
  go_wp2_with fail
  refine (refRatioOf_at n 1 h1 h2 (by omega) (by omega) W HT.out).mono ?_
  rintro e w1 ⟨rfl, hb1⟩
  rw [HST.out.1, HST.out.2]
  have HX1 := Lib.hid (And.intro (HX.out.1.ext hb1) (And.intro (HX.out.2.1.ext HX.out.1 hb1) (ext_trans HX.out.2.2 hb1)))
  clear HX HT hb1
  go_upto_region 2 with (fail)
  refine wp_box1 fun w2 hsz2 hb2 hR => ?_
  have hC2 := HX1.out.1.ext hb2
  have hF2 := HX1.out.2.1.ext HX1.out.1 hb2
  have hbw2 := ext_trans HX1.out.2.2 hb2
  clear hsz2 HX1 hb2
  generalize w1.heap.size = br at *
  have x0 : w2.cell? ⟨br, 0, none⟩ = some (.string s) := hR.2 0
  have x1 : w2.cell? ⟨br, 1, none⟩ = some (.string t) := hR.2 1
  have r0 : w2.cell? ⟨w.heap.size, 0, none⟩ = some (.string ⟨#[]⟩) := hC2.2 0
  have r1 : w2.cell? ⟨w.heap.size, 1, none⟩ = some (.string ⟨#[]⟩) := hC2.2 1
  have g0 := hF2 0
  have g1 := hF2 1
  have HR := Lib.hid (res2s (.string s) (.string t) hC2 hbw2 (Nat.le_refl _))
  obtain ⟨hbF, z0, z1⟩ := id HR.out
  clear hC2 hF2 hbw2 hR hbF
  go_wp2
  exact bodyPost_ret (v := .agg #[.string s, .string t]) (by simp [results, Tryz.results26, go_sem, z0, z1]) rfl ⟨rfl, HR.out.1⟩
set_option maxRecDepth 100000 in
set_option maxHeartbeats 8000000 in
theorem mLess_at (n1 d1 n2 d2 : ByteArray) (h1 : n1.size ≤ maxLen) (h2 : d1.size ≤ maxLen) (h3 : n2.size ≤ maxLen) (h4 : d2.size ≤ maxLen) (w : World) (ht : Tab w) : Calls Tryz.prog 24 #[.agg #[.string n1, .string d1], .agg #[.string n2, .string d2]] w (fun e w' => e = .returned (.bool (decide (ordV n1 d1 n2 d2 < 0))) ∧ Below w.heap.size w w') := by
  obtain ⟨o, ho⟩ : ∃ o, ordV n1 d1 n2 d2 = o := ⟨_, rfl⟩
  have HO := Lib.hid ho
  rw [ho]
  clear ho
  go_enter Tryz.func24, Tryz.ntmps24
  go_upto_region 1 with (fail)
  refine wp_box2 fun W hsz hbW hA hB => ?_
  have HT := Lib.hid (ht.ext hbW)
  clear hsz ht
  have a0 : W.cell? ⟨w.heap.size, 0, none⟩ = some (.string n1) := hA.2 0
  have a1 : W.cell? ⟨w.heap.size, 1, none⟩ = some (.string d1) := hA.2 1
  have a2 : W.cell? ⟨w.heap.size + 1, 0, none⟩ = some (.string n2) := hB.2 0
  have a3 : W.cell? ⟨w.heap.size + 1, 1, none⟩ = some (.string d2) := hB.2 1
  clear hA hB
  go_wp2_with fail
  refine (refOrder_at n1 d1 n2 d2 h1 h2 h3 h4 W HT.out).mono ?_
  rintro e w1 ⟨rfl, hb1⟩
  rw [HO.out]
  have hbw1 := ext_trans hbW hb1
  clear a0 a1 a2 a3 HT hb1 hbW
  go_wp2
  all_goals go_ret
  all_goals exact ⟨by simp_all, hbw1⟩
end Nt
end Go.Proofs.YtemenlcigengeaaGreatDoor
namespace Go.Proofs.YtemenlcigengeaaGreatDoor
namespace Nm
theorem decS_first (x : Nat) : cutB (decS x) = false := by
  obtain ⟨hd, c, r, h, _⟩ := decS_whl x
  rw [h]
  have := hd c (by rw [h]; simp)
  simp only [cutB]
  apply decide_eq_false
  intro hc
  subst hc
  have h2 : (45 : UInt8).toNat = 45 := rfl
  omega
theorem cut_show (q : Rat) : cutB (showN q).data.toList = decide (q.num < 0) ∧ (cutS (showN q)).data.toList = decS q.num.natAbs := by
  rw [cutS_list]
  unfold showN
  rw [strOf_list]
  unfold numL cutL
  by_cases h : q.num < 0
  · rw [if_pos h]; simp [cutB, h]
  · rw [if_neg h, decS_first]; simp [h]
theorem decS_ne_zero {x : Nat} (h : x ≠ 0) : (decS x == [48]) = false := by
  rw [beq_eq_false_iff_ne]
  intro e
  have := decv_decS x
  rw [e] at this
  exact h this.symm
theorem size_list (s : ByteArray) : s.size = s.data.toList.length := Array.length_toList.symm
theorem back {q : Rat} (h : Fits q) : rF (showN q) (showD q) = 0 ∧ rQ (showN q) (showD q) = q := by
  obtain ⟨h1, h2⟩ := cut_show q
  have hD : (showD q).data.toList = decS q.den := rfl
  have hv1 : decv (cutS (showN q)).data.toList = q.num.natAbs := by rw [h2, decv_decS]
  have hv2 : decv (showD q).data.toList = q.den := by rw [hD, decv_decS]
  constructor
  · unfold rF
    have hb : badR (cutS (showN q)) (showD q) (cutB (showN q).data.toList) = false := by
      unfold badR
      rw [h2, hD, h1, ByteArray.toList_eq, ByteArray.toList_eq, h2, hD, whl_whole (decS_whl _), whl_whole (decS_whl _), decS_ne_zero q.den_nz]
      by_cases hn : q.num < 0
      · rw [decS_ne_zero (by omega)]; simp
      · simp [hn]
    have hl : ¬ largeR (cutS (showN q)) (showD q) := by
      unfold largeR
      rw [size_list, size_list, h2, hD]
      have := h.1
      have := h.2
      omega
    have hg : ¬ (Nat.gcd (decv (cutS (showN q)).data.toList) (decv (showD q).data.toList) ≠ 1) := by
      rw [hv1, hv2]; exact not_not_intro q.reduced
    rw [if_neg (by rw [hb]; simp), if_neg hl, if_neg hg]
  · unfold rQ
    rw [hv1, hv2, h1, sgn_self]
    unfold mkRat
    rw [dif_neg q.den_nz]
    exact Rat.normalize_self q
theorem ext_bytes {s t : ByteArray} (h : s.data.toList = t.data.toList) : s = t := by
  apply ByteArray.ext
  exact Array.toList_inj.1 h
theorem cut_join (n : ByteArray) : n.data.toList = if cutB n.data.toList then 45 :: cutL n.data.toList else cutL n.data.toList := by
  unfold cutL
  cases h : n.data.toList with
  | nil => simp [cutB]
  | cons c r =>
    by_cases hc : c = 45
    · subst hc; simp [cutB]
    · simp [cutB, hc]
theorem show_back {n d : ByteArray} (h : rF n d = 0) : showN (rQ n d) = n ∧ showD (rQ n d) = d ∧ Fits (rQ n d) := by
  obtain ⟨_, h2, h3, h4, h5, h6, h7, h8⟩ := rQ_facts h
  have e1 := whl_eq _ _ (whole_whl h4) rfl
  have e2 := whl_eq _ _ (whole_whl h5) rfl
  have hna : (rQ n d).num.natAbs = decv (cutS n).data.toList := by rw [h2, sgn_natAbs]
  refine ⟨?_, ?_, ?_⟩
  · apply ext_bytes
    unfold showN
    rw [strOf_list]
    unfold numL
    rw [hna, ← e1, cutS_list]
    have hj := cut_join n
    by_cases hn : (rQ n d).num < 0
    · rw [if_pos hn]
      rw [decide_eq_true hn] at h8
      rw [← h8] at hj
      simpa using hj.symm
    · rw [if_neg hn]
      rw [decide_eq_false hn] at h8
      rw [← h8] at hj
      simpa using hj.symm
  · apply ext_bytes
    unfold showD
    rw [strOf_list, h3, ← e2]
  · unfold Fits
    rw [hna, h3, ← e1, ← e2, ← size_list, ← size_list]
    exact ⟨h6, h7⟩
end Nm
end Go.Proofs.YtemenlcigengeaaGreatDoor
namespace Go.Proofs.YtemenlcigengeaaGreatDoor
namespace Nm
/-- q is m / D, m not above M, of any sign -/
def FZ (D M : Nat) (q : Rat) : Prop := D ≠ 0 ∧ ∃ m : Int, m.natAbs ≤ M ∧ q = mkRat m D
/-- bounds of the numerator and of the denominator -/
def Bd (A B : Nat) (q : Rat) : Prop := q.num.natAbs ≤ A ∧ q.den ≤ B
theorem FZ.zero {D : Nat} (hD : D ≠ 0) (M : Nat) : FZ D M 0 := ⟨hD, 0, Nat.zero_le _, by simp⟩
theorem FZ.mono {D M M' : Nat} {q : Rat} (h : FZ D M q) (hM : M ≤ M') : FZ D M' q := by
  obtain ⟨hD, m, hm, rfl⟩ := h; exact ⟨hD, m, Nat.le_trans hm hM, rfl⟩
theorem FZ.scale {D M : Nat} {q : Rat} (h : FZ D M q) {c : Nat} (hc : c ≠ 0) : FZ (D * c) (M * c) q := by
  obtain ⟨hD, m, hm, rfl⟩ := h
  refine ⟨Nat.mul_ne_zero hD hc, m * (c : Int), ?_, ?_⟩
  · rw [Int.natAbs_mul, Int.natAbs_natCast]; exact Nat.mul_le_mul_right _ hm
  · rw [Rat.mkRat_mul_right hc]
theorem FZ.add {D M N : Nat} {p q : Rat} (h : FZ D M p) (k : FZ D N q) : FZ D (M + N) (p + q) := by
  obtain ⟨hD, m, hm, rfl⟩ := h
  obtain ⟨_, n, hn, rfl⟩ := k
  refine ⟨hD, m + n, by omega, ?_⟩
  rw [Rat.mkRat_add_mkRat _ _ hD hD, ← Int.add_mul, Rat.mkRat_mul_right hD]
theorem FZ.mul {D E M N : Nat} {p q : Rat} (h : FZ D M p) (k : FZ E N q) : FZ (D * E) (M * N) (p * q) := by
  obtain ⟨hD, m, hm, rfl⟩ := h
  obtain ⟨hE, n, hn, rfl⟩ := k
  refine ⟨Nat.mul_ne_zero hD hE, m * n, ?_, ?_⟩
  · rw [Int.natAbs_mul]; exact Nat.mul_le_mul hm hn
  · rw [Rat.mkRat_mul_mkRat]
theorem FZ.int {z : Int} {M : Nat} (h : z.natAbs ≤ M) : FZ 1 M (z : Rat) := ⟨by omega, z, h, by rw [Rat.mkRat_one]⟩
theorem FZ.nat {n M : Nat} (h : n ≤ M) : FZ 1 M ((n : Nat) : Rat) := ⟨by omega, (n : Int), h, by rw [Rat.mkRat_one, Rat.intCast_natCast]⟩
theorem FZ.bd {D M : Nat} {q : Rat} (h : FZ D M q) : Bd M D q := by
  obtain ⟨hD, m, hm, rfl⟩ := h
  have e : mkRat m D = Rat.normalize (sgn (decide (m < 0)) m.natAbs) D hD := by rw [Rat.normalize_eq_mkRat, sgn_self]
  unfold Bd
  rw [e, norm_abs, norm_den]
  exact ⟨Nat.le_trans (Nat.div_le_self _ _) hm, Nat.div_le_self _ _⟩
theorem Bd.mono {A B A' B' : Nat} {q : Rat} (h : Bd A B q) (h1 : A ≤ A') (h2 : B ≤ B') : Bd A' B' q := ⟨Nat.le_trans h.1 h1, Nat.le_trans h.2 h2⟩
theorem Bd.self (q : Rat) : FZ q.den q.num.natAbs q := ⟨q.den_nz, q.num, Nat.le_refl _, (Rat.mkRat_self q).symm⟩
theorem Bd.int {z : Int} {M : Nat} (h : z.natAbs ≤ M) : Bd M 1 (z : Rat) := (FZ.int h).bd
theorem Bd.nat {n M : Nat} (h : n ≤ M) : Bd M 1 ((n : Nat) : Rat) := (FZ.nat h).bd
theorem Bd.mul {A B A' B' : Nat} {p q : Rat} (h : Bd A B p) (k : Bd A' B' q) : Bd (A * A') (B * B') (p * q) :=
  ((Bd.self p).mul (Bd.self q)).bd.mono (Nat.mul_le_mul h.1 k.1) (Nat.mul_le_mul h.2 k.2)
theorem Bd.add {A B A' B' : Nat} {p q : Rat} (h : Bd A B p) (k : Bd A' B' q) : Bd (A * B' + A' * B) (B * B') (p + q) := by
  have h1 := (Bd.self p).scale (c := q.den) q.den_nz
  have h2 := (Bd.self q).scale (c := p.den) p.den_nz
  rw [Nat.mul_comm q.den p.den] at h2
  exact (h1.add h2).bd.mono (Nat.add_le_add (Nat.mul_le_mul h.1 k.2) (Nat.mul_le_mul k.1 h.2)) (Nat.mul_le_mul h.2 k.2)
theorem Bd.inv {A B : Nat} {q : Rat} (h : Bd A B q) (h0 : q ≠ 0) : Bd B A q⁻¹ := by
  have hn : q.num ≠ 0 := fun e => h0 (Rat.num_eq_zero.1 e)
  obtain ⟨f1, f2, _, _⟩ := inv_facts hn
  exact ⟨by rw [f1]; exact h.2, by rw [f2]; exact h.1⟩
/-- lengths: at most so many digits -/
def Ln (a b : Nat) (q : Rat) : Prop := q.num.natAbs ≤ 10 ^ a ∧ q.den ≤ 10 ^ b
theorem ten_le {a b : Nat} (h : a ≤ b) : 10 ^ a ≤ 10 ^ b := Nat.pow_le_pow_right (by decide) h
theorem ten_two {a b : Nat} : 10 ^ a + 10 ^ b ≤ 10 ^ (max a b + 1) := by
  have h1 : 10 ^ a ≤ 10 ^ max a b := ten_le (Nat.le_max_left _ _)
  have h2 : 10 ^ b ≤ 10 ^ max a b := ten_le (Nat.le_max_right _ _)
  rw [Nat.pow_succ]; omega
theorem Bd.ln {A B a b : Nat} {q : Rat} (h : Bd A B q) (h1 : A ≤ 10 ^ a) (h2 : B ≤ 10 ^ b) : Ln a b q := ⟨Nat.le_trans h.1 h1, Nat.le_trans h.2 h2⟩
theorem FZ.ln {D M a b : Nat} {q : Rat} (h : FZ D M q) (h1 : M ≤ 10 ^ a) (h2 : D ≤ 10 ^ b) : Ln a b q := h.bd.ln h1 h2
theorem Ln.mono {a b a' b' : Nat} {q : Rat} (h : Ln a b q) (h1 : a ≤ a') (h2 : b ≤ b') : Ln a' b' q := ⟨Nat.le_trans h.1 (ten_le h1), Nat.le_trans h.2 (ten_le h2)⟩
theorem Ln.mul {a b a' b' : Nat} {p q : Rat} (h : Ln a b p) (k : Ln a' b' q) : Ln (a + a') (b + b') (p * q) :=
  (Bd.mul h k).ln (by rw [Nat.pow_add]; exact Nat.le_refl _) (by rw [Nat.pow_add]; exact Nat.le_refl _)
theorem Ln.add {a b a' b' : Nat} {p q : Rat} (h : Ln a b p) (k : Ln a' b' q) : Ln (max (a + b') (a' + b) + 1) (b + b') (p + q) :=
  (Bd.add h k).ln (by rw [← Nat.pow_add, ← Nat.pow_add]; exact ten_two) (by rw [Nat.pow_add]; exact Nat.le_refl _)
theorem Ln.inv {a b : Nat} {q : Rat} (h : Ln a b q) (h0 : q ≠ 0) : Ln b a q⁻¹ := Bd.inv h h0
theorem Ln.int {z : Int} {a : Nat} (h : z.natAbs ≤ 10 ^ a) : Ln a 0 (z : Rat) := (Bd.int h).ln (Nat.le_refl _) (Nat.le_refl _)
theorem Ln.nat {n a : Nat} (h : n ≤ 10 ^ a) : Ln a 0 ((n : Nat) : Rat) := (Bd.nat h).ln (Nat.le_refl _) (Nat.le_refl _)
end Nm
end Go.Proofs.YtemenlcigengeaaGreatDoor
