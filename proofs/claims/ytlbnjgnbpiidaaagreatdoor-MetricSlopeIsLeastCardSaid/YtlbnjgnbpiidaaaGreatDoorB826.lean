/- Order of the reference. Printed by gen_rrat9.py. Whole, Plus, Times, Minus, Over, Less of the references: on texts. Printed by gen_rm.py. -/
import Derived.Test.YtlbnjgnbpiidaaaGreatDoorB824
import Derived.Test.YtlbnjgnbpiidaaaGreatDoorB825
namespace Go.Proofs.YtlbnjgnbpiidaaaGreatDoor
open Go.RowKit
namespace Nt
open _root_.Go.Proofs.YtlbnjgnbpiidaaaGreatDoor.Nm (rF rQ sgn outN outD outF AnsPost bF opN opD opF zeroX cmpQ ordV OrdPost)
theorem cmpN_range (x y : Nat) : -1 ≤ cmpN x y ∧ cmpN x y ≤ 1 := Nm.cmpN_range x y
set_option maxRecDepth 100000 in
set_option maxHeartbeats 16000000 in
theorem refOrder_at (n1 d1 n2 d2 : ByteArray) (h1 : n1.size ≤ maxLen) (h2 : d1.size ≤ maxLen) (h3 : n2.size ≤ maxLen) (h4 : d2.size ≤ maxLen) (w : World) (ht : Tab w) : Calls Tryz.prog 46 #[.agg #[.string n1, .string d1], .agg #[.string n2, .string d2]] w (OrdPost w n1 d1 n2 d2) := by
 have HO : Hid (ordV n1 d1 n2 d2 = if bF n1 d1 n2 d2 = 0 then cmpQ (rQ n1 d1) (rQ n2 d2) else 0) := Lib.hid rfl
 have HF : Hid (OrdPost w n1 d1 n2 d2 = fun e w' => e = .returned (.tuple #[.int .i64 (ordV n1 d1 n2 d2), .int .i64 (bF n1 d1 n2 d2)]) ∧ Below w.heap.size w w') := Lib.hid rfl
 rw [HF.out]
 clear HF
 generalize ordV n1 d1 n2 d2 = ov at *
 go_enter Tryz.func46, Tryz.ntmps46
 go_upto_region 1 with (fail)
 refine wp_box2 fun W hsz hbW hA hB => ?_
 have HT := Lib.hid (ht.ext hbW)
 clear hsz ht
 have a0 : W.cell? ⟨w.heap.size, 0, none⟩ = some (.string n1) := hA.2 0
 have a1 : W.cell? ⟨w.heap.size, 1, none⟩ = some (.string d1) := hA.2 1
 have a2 : W.cell? ⟨w.heap.size + 1, 0, none⟩ = some (.string n2) := hB.2 0
 have a3 : W.cell? ⟨w.heap.size + 1, 1, none⟩ = some (.string d2) := hB.2 1
 go_wp2_with fail
 refine (refBoth_at n1 d1 n2 d2 h1 h2 h3 h4 W HT.out).mono ?_
 rintro e w1 ⟨rfl, hb1⟩
 have hA1 := hA.ext hb1
 have hB1 := hB.ext hb1
 have hbw1 := ext_trans hbW hb1
 clear hA hB hbW hb1 a0 a1 a2 a3 HT
 have a0 : w1.cell? ⟨w.heap.size, 0, none⟩ = some (.string n1) := hA1.2 0
 have a1 : w1.cell? ⟨w.heap.size, 1, none⟩ = some (.string d1) := hA1.2 1
 have a2 : w1.cell? ⟨w.heap.size + 1, 0, none⟩ = some (.string n2) := hB1.2 0
 have a3 : w1.cell? ⟨w.heap.size + 1, 1, none⟩ = some (.string d2) := hB1.2 1
 clear hA1 hB1
 have HB := Lib.hid hbw1
 clear hbw1
 by_cases hz : bF n1 d1 n2 d2 = 0
 ·have hne : (bF n1 d1 n2 d2 != 0) = false := by simp [hz]
  obtain ⟨e1, e2⟩ := bF_zero hz
  have HO1 := Lib.hid (fun w' => open_is n1 d1 h1 e1 w')
  have HO2 := Lib.hid (fun w' => open_is n2 d2 h3 e2 w')
  have HS1 := Lib.hid (small_digs9 e1)
  have HS2 := Lib.hid (small_digs9 e2)
  have HO2' : Hid (ov = cmpQ (rQ n1 d1) (rQ n2 d2)) := by have := HO.out; rw [if_pos hz] at this; exact this
  have HZ := Lib.hid hz
  generalize rQ n1 d1 = q1 at *
  generalize rQ n2 d2 = q2 at *
  have hw1 := HS1.out.1
  have hw2 := HS1.out.2
  have hw3 := HS2.out.1
  have hw4 := HS2.out.2
  clear hz HO e1 e2 HS1 HS2
  go_upto_region 4 with (fail)
  refine Grow.wp_region_grow2 6 [.is (TP.eq (.agg #[.string n1, .string d1])), .is (TP.frac (decide (q1.num < 0)) q1.num.natAbs q1.den), .is (TP.eq (.agg #[.string n2, .string d2])), .is (TP.frac (decide (q2.num < 0)) q2.num.natAbs q2.den), .new zeroX, .new zeroX] [[], [0], [], [2], [], []] (by kernel_rfl) (by kernel_rfl) ⟨?p0, ?p1, ?p2, ?p3, ?p4, ?p5, trivial⟩ ?_
  case p0 =>
   intro w' hb
   have ca := zzc hb a0
   have cb := zzc hb a1
   show wpList _ _ _ _ _ _
   go_wp2
   exact ⟨rfl, Below.refl _ _, rfl⟩
  case p1 =>
   intro w' hb v1 hv1
   cases hv1
   show wpList _ _ _ _ _ _
   simp only [Grow.dstOf, zzp, Act.put]
   go_wp2_with fail
   refine (HO1.out w').mono ?_
   rintro e wz ⟨z1, z2, rfl, hx1, hx2, hbz⟩
   have HX1 := Lib.hid hx1
   have HX2 := Lib.hid hx2
   clear hx1 hx2
   go_wp2
   exact ⟨⟨_, _, rfl, HX1.out, HX2.out⟩, hbz, rfl⟩
  case p2 =>
   intro w' hb
   have ca := zzc hb a2
   have cb := zzc hb a3
   show wpList _ _ _ _ _ _
   go_wp2
   exact ⟨rfl, Below.refl _ _, rfl⟩
  case p3 =>
   intro w' hb v1 hv1
   cases hv1
   show wpList _ _ _ _ _ _
   simp only [Grow.dstOf, zzp, Act.put]
   go_wp2_with fail
   refine (HO2.out w').mono ?_
   rintro e wz ⟨z1, z2, rfl, hx1, hx2, hbz⟩
   have HX1 := Lib.hid hx1
   have HX2 := Lib.hid hx2
   clear hx1 hx2
   go_wp2
   exact ⟨⟨_, _, rfl, HX1.out, HX2.out⟩, hbz, rfl⟩
  case p4 =>
   intro w' hb
   show wpList _ _ _ _ _ _
   go_wp2
   exact ⟨⟨_, rfl, Nat.le_refl _, Box.new _ _ _, Fre.new _ _ _⟩, ext_alloc _ _, rfl⟩
  case p5 =>
   intro w' hb
   show wpList _ _ _ _ _ _
   go_wp2
   exact ⟨⟨_, rfl, Nat.le_refl _, Box.new _ _ _, Fre.new _ _ _⟩, ext_alloc _ _, rfl⟩
  intro w7 hb7 v0 h0 v1 h1 v2 h2 v3 h3 v4 h4 v5 h5 hpw
  have hne : v4 ≠ v5 := hpw 4 5 (by omega) (by omega) (by omega) rfl rfl
  have g1 : ∃ u1 u2, v1 = .agg #[.bool (decide (q1.num < 0)), u1, u2] ∧ N w7 u1 q1.num.natAbs ∧ N w7 u2 q1.den := h1
  have g3 : ∃ u1 u2, v3 = .agg #[.bool (decide (q2.num < 0)), u1, u2] ∧ N w7 u1 q2.num.natAbs ∧ N w7 u2 q2.den := h3
  have g4 : ∃ g, v4 = .pointer (some ⟨g, 0, none⟩) ∧ w1.heap.size ≤ g ∧ Box w7 g zeroX ∧ Fre w7 g := h4
  have g5 : ∃ g, v5 = .pointer (some ⟨g, 0, none⟩) ∧ w1.heap.size ≤ g ∧ Box w7 g zeroX ∧ Fre w7 g := h5
  clear h0 h1 h2 h3 h4 h5 hpw
  obtain ⟨u1, u2, rfl, k1, k2⟩ := g1
  obtain ⟨u3, u4, rfl, k3, k4⟩ := g3
  obtain ⟨g, rfl, hgl, hgB, hgF⟩ := g4
  obtain ⟨g', rfl, hgl', hgB', hgF'⟩ := g5
  have hgg : g ≠ g' := fun e => hne (by rw [e])
  have hgg' : g' ≠ g := fun e => hgg e.symm
  obtain ⟨m1, c1, rfl, _⟩ := k1.open_
  obtain ⟨m2, c2, rfl, _⟩ := k2.open_
  obtain ⟨m3, c3, rfl, _⟩ := k3.open_
  obtain ⟨m4, c4, rfl, _⟩ := k4.open_
  have HP := Lib.hid (pairSet (b := decide (q1.num < 0)) (b' := decide (q2.num < 0)) hgB hgB' hgg k1 k2 k3 k4 hb7 hgl hgl')
  obtain ⟨r0, r1, r2⟩ := Nm.boxX hgB
  obtain ⟨r3, r4, r5⟩ := Nm.boxX hgB'
  have f0 := hgF 0
  have f1 := hgF 1
  have f2 := hgF 2
  have f3 := hgF' 0
  have f4 := hgF' 1
  have f5 := hgF' 2
  clear hne k1 k2 k3 k4 hgB hgF hgB' hgF' hb7
  show wpList _ _ _ _ _ _
  simp only [Act.put, zzp]
  go_upto_region 5 with (fail)
  clear r0 r1 r2 r3 r4 r5 f0 f1 f2 f3 f4 f5
  obtain ⟨X, hX⟩ : ∃ X, X = (((((w7.setCell ⟨g, 0, none⟩ (.bool (decide (q1.num < 0)))).setCell ⟨g, 1, none⟩ (.slice m1 (digs q1.num.natAbs).length c1)).setCell ⟨g, 2, none⟩ (.slice m2 (digs q1.den).length c2)).setCell ⟨g', 0, none⟩ (.bool (decide (q2.num < 0)))).setCell ⟨g', 1, none⟩ (.slice m3 (digs q2.num.natAbs).length c3)).setCell ⟨g', 2, none⟩ (.slice m4 (digs q2.den).length c4) := ⟨_, rfl⟩
  rw [← hX]
  have HPX : Hid ((Box X g #[.bool (decide (q1.num < 0)), .slice m1 (digs q1.num.natAbs).length c1, .slice m2 (digs q1.den).length c2] ∧ Box X g' #[.bool (decide (q2.num < 0)), .slice m3 (digs q2.num.natAbs).length c3, .slice m4 (digs q2.den).length c4]) ∧ (N X (.slice m1 (digs q1.num.natAbs).length c1) q1.num.natAbs ∧ N X (.slice m2 (digs q1.den).length c2) q1.den ∧ N X (.slice m3 (digs q2.num.natAbs).length c3) q2.num.natAbs ∧ N X (.slice m4 (digs q2.den).length c4) q2.den) ∧ Below w1.heap.size w1 X) := by
   have h := HP.out
   rw [hX]
   exact Lib.hid h
  clear hX HP hgg hgg'
  obtain ⟨⟨hbx, hby⟩, ⟨hn1, hn2, hn3, hn4⟩, hbX⟩ := id HPX.out
  have HNX := Lib.hid (And.intro hn1 (And.intro hn2 (And.intro hn3 hn4)))
  have x0 : X.cell? ⟨g, 0, none⟩ = some (.bool (decide (q1.num < 0))) := hbx.2 0
  have x1 : X.cell? ⟨g, 1, none⟩ = some (.slice m1 (digs q1.num.natAbs).length c1) := hbx.2 1
  have x2 : X.cell? ⟨g, 2, none⟩ = some (.slice m2 (digs q1.den).length c2) := hbx.2 2
  have y0 : X.cell? ⟨g', 0, none⟩ = some (.bool (decide (q2.num < 0))) := hby.2 0
  have y1 : X.cell? ⟨g', 1, none⟩ = some (.slice m3 (digs q2.num.natAbs).length c3) := hby.2 1
  have y2 : X.cell? ⟨g', 2, none⟩ = some (.slice m4 (digs q2.den).length c4) := hby.2 2
  clear hbx hby hn1 hn2 hn3 hn4 HPX
  clear a0 a1 a2 a3 HO1 HO2
  obtain ⟨L, HL⟩ : ∃ L, Hid (L = q1.num.natAbs * q2.den) := ⟨_, Lib.hid rfl⟩
  obtain ⟨R, HR⟩ : ∃ R, Hid (R = q2.num.natAbs * q1.den) := ⟨_, Lib.hid rfl⟩
  have HS : Hid (decide (q1.num < 0) = decide (q2.num < 0) → cmpQ q1 q2 = if q1.num < 0 then - cmpN L R else cmpN L R) := Lib.hid (fun h => by rw [HL.out, HR.out]; exact Nm.cmpQ_same h)
  have HBe : Hid (q1.num < 0 → ¬ q2.num < 0 → cmpQ q1 q2 = -1) := Lib.hid Nm.cmpQ_below
  have HAb : Hid (¬ q1.num < 0 → q2.num < 0 → cmpQ q1 q2 = 1) := Lib.hid Nm.cmpQ_above
  obtain ⟨b1, hb1⟩ : ∃ b, decide (q1.num < 0) = b := ⟨_, rfl⟩
  obtain ⟨b2, hb2⟩ : ∃ b, decide (q2.num < 0) = b := ⟨_, rfl⟩
  have HBB := Lib.hid (And.intro hb1 hb2)
  rw [hb1] at x0 ⊢
  rw [hb2] at y0 ⊢
  clear hb1 hb2
  by_cases hbb : b1 = b2
  ·subst hbb
   have hq : (b1 != b1) = false := by simp
   have HV := Lib.hid (HS.out (HBB.out.1.trans HBB.out.2.symm))
   obtain ⟨C, hC⟩ : ∃ C, cmpN L R = C := ⟨_, rfl⟩
   have hCr : -1 ≤ C ∧ C ≤ 1 := by rw [← hC]; exact cmpN_range L R
   have HCC := Lib.hid hC
   obtain ⟨hC1, hC2⟩ := hCr
   clear hC HS HBe HAb
   go_upto_region 9 with (fail)
   refine Grow.wp_region_grow 11 [TP.eq (.pointer (some ⟨g, 1, none⟩)), TP.eq (.slice m1 (digs q1.num.natAbs).length c1), TP.eq (.pointer (some ⟨g', 2, none⟩)), TP.eq (.slice m4 (digs q2.den).length c4), TP.nat L, TP.eq (.pointer (some ⟨g', 1, none⟩)), TP.eq (.slice m3 (digs q2.num.natAbs).length c3), TP.eq (.pointer (some ⟨g, 2, none⟩)), TP.eq (.slice m2 (digs q1.den).length c2), TP.nat R, TP.eq (.int .i64 C)] [[], [0], [], [2], [1, 3], [], [5], [], [7], [6, 8], [4, 9]] (by kernel_rfl) (by kernel_rfl) ⟨?r0, ?r1, ?r2, ?r3, ?r4, ?r5, ?r6, ?r7, ?r8, ?r9, ?r10, trivial⟩ ?_
   case r0 =>
    intro w' hb
    show wpList _ _ _ _ _ _
    go_wp2
    exact ⟨rfl, Below.refl _ _, rfl⟩
   case r1 =>
    intro w' hb v1 hv1
    cases hv1
    have ca := zzc hb x1
    show wpList _ _ _ _ _ _
    simp only [Grow.dstOf, zzp, Act.put]
    go_wp2
    exact ⟨rfl, Below.refl _ _, rfl⟩
   case r2 =>
    intro w' hb
    show wpList _ _ _ _ _ _
    go_wp2
    exact ⟨rfl, Below.refl _ _, rfl⟩
   case r3 =>
    intro w' hb v1 hv1
    cases hv1
    have ca := zzc hb y2
    show wpList _ _ _ _ _ _
    simp only [Grow.dstOf, zzp, Act.put]
    go_wp2
    exact ⟨rfl, Below.refl _ _, rfl⟩
   case r4 =>
    intro w' hb v1 hv1 v2 hv2
    cases hv1
    cases hv2
    show wpList _ _ _ _ _ _
    simp only [Grow.dstOf, zzp, Act.put]
    go_wp2_with fail
    refine (times_at (q1.num.natAbs) (q2.den) _ _ w' (HNX.out.1.ext hb) (HNX.out.2.2.2.ext hb) (by omega) (by omega)).mono ?_
    rintro e wz ⟨vz, rfl, hxz, hbz⟩
    rw [← HL.out] at hxz
    have HXZ := Lib.hid hxz
    clear hxz
    go_wp2
    exact ⟨HXZ.out, hbz, rfl⟩
   case r5 =>
    intro w' hb
    show wpList _ _ _ _ _ _
    go_wp2
    exact ⟨rfl, Below.refl _ _, rfl⟩
   case r6 =>
    intro w' hb v1 hv1
    cases hv1
    have ca := zzc hb y1
    show wpList _ _ _ _ _ _
    simp only [Grow.dstOf, zzp, Act.put]
    go_wp2
    exact ⟨rfl, Below.refl _ _, rfl⟩
   case r7 =>
    intro w' hb
    show wpList _ _ _ _ _ _
    go_wp2
    exact ⟨rfl, Below.refl _ _, rfl⟩
   case r8 =>
    intro w' hb v1 hv1
    cases hv1
    have ca := zzc hb x2
    show wpList _ _ _ _ _ _
    simp only [Grow.dstOf, zzp, Act.put]
    go_wp2
    exact ⟨rfl, Below.refl _ _, rfl⟩
   case r9 =>
    intro w' hb v1 hv1 v2 hv2
    cases hv1
    cases hv2
    show wpList _ _ _ _ _ _
    simp only [Grow.dstOf, zzp, Act.put]
    go_wp2_with fail
    refine (times_at (q2.num.natAbs) (q1.den) _ _ w' (HNX.out.2.2.1.ext hb) (HNX.out.2.1.ext hb) (by omega) (by omega)).mono ?_
    rintro e wz ⟨vz, rfl, hxz, hbz⟩
    rw [← HR.out] at hxz
    have HXZ := Lib.hid hxz
    clear hxz
    go_wp2
    exact ⟨HXZ.out, hbz, rfl⟩
   case r10 =>
    intro w' hb v1 hv1 v2 hv2
    have hk : N w' v1 L := hv1
    have hk2 : N w' v2 R := hv2
    obtain ⟨m8, c8, rfl, _⟩ := hk.open_
    obtain ⟨m9, c9, rfl, _⟩ := hk2.open_
    have HK := Lib.hid hk
    have HK2 := Lib.hid hk2
    clear hv1 hk hv2 hk2
    show wpList _ _ _ _ _ _
    simp only [Grow.dstOf, zzp, Act.put]
    go_wp2_with fail
    refine (order_at L R _ _ w' HK.out HK2.out).mono ?_
    rw [HCC.out]
    rintro e wz ⟨rfl, kq, hwq⟩
    have hbz : Below w'.heap.size w' wz := by rw [hwq]; exact below_drewN (Below.refl _ _) kq
    clear hwq
    go_wp2
    exact ⟨rfl, hbz, rfl⟩
   intro w8 hb8 v0 h0 v1 h1 v2 h2 v3 h3 v4 h4 v5 h5 v6 h6 v7 h7 v8 h8 v9 h9 v10 h10
   obtain rfl : v10 = _ := h10
   clear h0 h1 h2 h3 h4 h5 h6 h7 h8 h9
   have s0 : w8.cell? ⟨g, 0, none⟩ = some (.bool b1) := (hb8.cell (World.block_lt_of_cell? _ _ x0)).trans x0
   have hbw8 := ext_trans HB.out (ext_trans hbX hb8)
   clear x0 x1 x2 y0 y1 y2 hb8 hbX HB HNX
   show wpList _ _ _ _ _ _
   simp only [Act.put, zzp]
   cases b1 with
   | true =>
    have HV2 : Hid (ov = -C) := by
     have := HV.out; rw [if_pos (of_decide_eq_true HBB.out.1), HCC.out] at this
     exact Lib.hid (HO2'.out.trans this)
    clear HV HCC HBB
    go_wp2
    exact bodyPost_ret (v := .tuple #[.int .i64 (-C), .int .i64 0]) (by simp [results, Tryz.results46, go_sem]) rfl ⟨by rw [HV2.out, HZ.out], hbw8⟩
   | false =>
    have HV2 : Hid (ov = C) := by
     have := HV.out; rw [if_neg (of_decide_eq_false HBB.out.1), HCC.out] at this
     exact Lib.hid (HO2'.out.trans this)
    clear HV HCC HBB
    go_wp2
    exact bodyPost_ret (v := .tuple #[.int .i64 (C), .int .i64 0]) (by simp [results, Tryz.results46, go_sem]) rfl ⟨by rw [HV2.out, HZ.out], hbw8⟩
  ·have hq : (b1 != b2) = true := by simp [hbb]
   have hbw8 := Lib.hid (ext_trans HB.out hbX)
   clear hbX HB HNX HS
   cases b1 with
   | true =>
    have hb2f : b2 = false := by cases b2 <;> simp_all
    have HV2 : Hid (ov = -1) := Lib.hid (HO2'.out.trans (HBe.out (of_decide_eq_true HBB.out.1) (of_decide_eq_false (HBB.out.2.trans hb2f))))
    clear HBe HAb HBB
    subst hb2f
    go_wp2
    exact bodyPost_ret (v := .tuple #[.int .i64 (-1), .int .i64 0]) (by simp [results, Tryz.results46, go_sem]) rfl ⟨by rw [HV2.out, HZ.out], hbw8.out⟩
   | false =>
    have hb2f : b2 = true := by cases b2 <;> simp_all
    have HV2 : Hid (ov = 1) := Lib.hid (HO2'.out.trans (HAb.out (of_decide_eq_false HBB.out.1) (of_decide_eq_true (HBB.out.2.trans hb2f))))
    clear HBe HAb HBB
    subst hb2f
    go_wp2
    exact bodyPost_ret (v := .tuple #[.int .i64 (1), .int .i64 0]) (by simp [results, Tryz.results46, go_sem]) rfl ⟨by rw [HV2.out, HZ.out], hbw8.out⟩
 ·have hne : (bF n1 d1 n2 d2 != 0) = true := by simp [hz]
  have HV2 : Hid (ov = 0) := by have := HO.out; rw [if_neg hz] at this; exact this
  clear hz HO
  go_wp2
  exact bodyPost_ret (v := .tuple #[.int .i64 0, .int .i64 (bF n1 d1 n2 d2)]) (by simp [results, Tryz.results46, go_sem]) rfl ⟨by rw [HV2.out], HB.out⟩
end Nt
end Go.Proofs.YtlbnjgnbpiidaaaGreatDoor
namespace Go.Proofs.YtlbnjgnbpiidaaaGreatDoor
open Go.RowKit
namespace Nt
open _root_.Go.Proofs.YtlbnjgnbpiidaaaGreatDoor.Nm (rF rQ sgn outN outD outF AnsPost bF opN opD opF iN iD iF quoN quoD quoF ordV OrdPost)
/-- a call that returns a ratio -/
def RPost (w : World) (s t : ByteArray) (e : Ending) (w' : World) : Prop := e = .returned (.agg #[.string s, .string t]) ∧ Below w.heap.size w w'
set_option maxRecDepth 100000 in
set_option maxHeartbeats 8000000 in
theorem mWhole_at (n : Int) (h1 : -9223372036854775808 ≤ n) (h2 : n ≤ 9223372036854775807) (w : World) (ht : Tab w) : Calls Tryz.prog 14 #[.int .i64 n] w (RPost w (quoN n 1) (quoD n 1)) := by
 obtain ⟨s, hs⟩ : ∃ s, quoN n 1 = s := ⟨_, rfl⟩
 obtain ⟨t, htt⟩ : ∃ t, quoD n 1 = t := ⟨_, rfl⟩
 have HST := Lib.hid (And.intro hs htt)
 rw [hs, htt]
 clear hs htt
 go_enter Tryz.func14, Tryz.ntmps14
 go_upto_region 1 with (fail)
 refine wp_box1r fun W hsz hbW hC hF => ?_
 have HT := Lib.hid (ht.ext hbW)
 clear hsz ht
 have HX := Lib.hid (And.intro hC (And.intro hF hbW))
 clear hC hF hbW
 go_wp2_with fail
 refine (refRatioOf_at n 1 h1 h2 (by omega) (by omega) W HT.out).mono ?_
 rintro e w1 ⟨rfl, hb1⟩
 rw [HST.out.1, HST.out.2]
 have HX1 := Lib.hid (And.intro (HX.out.1.ext hb1) (And.intro (HX.out.2.1.ext HX.out.1 hb1) (ext_trans HX.out.2.2 hb1)))
 clear HX HT hb1
 go_upto_region 2 with (fail)
 refine wp_box1 fun w2 hsz2 hb2 hR => ?_
 have hC2 := HX1.out.1.ext hb2
 have hF2 := HX1.out.2.1.ext HX1.out.1 hb2
 have hbw2 := ext_trans HX1.out.2.2 hb2
 clear hsz2 HX1 hb2
 generalize w1.heap.size = br at *
 have x0 : w2.cell? ⟨br, 0, none⟩ = some (.string s) := hR.2 0
 have x1 : w2.cell? ⟨br, 1, none⟩ = some (.string t) := hR.2 1
 have r0 : w2.cell? ⟨w.heap.size, 0, none⟩ = some (.string ⟨#[]⟩) := hC2.2 0
 have r1 : w2.cell? ⟨w.heap.size, 1, none⟩ = some (.string ⟨#[]⟩) := hC2.2 1
 have g0 := hF2 0
 have g1 := hF2 1
 have HR := Lib.hid (res2s (.string s) (.string t) hC2 hbw2 (Nat.le_refl _))
 obtain ⟨hbF, z0, z1⟩ := id HR.out
 clear hC2 hF2 hbw2 hR hbF
 go_wp2
 exact bodyPost_ret (v := .agg #[.string s, .string t]) (by simp [results, Tryz.results14, go_sem, z0, z1]) rfl ⟨rfl, HR.out.1⟩
set_option maxRecDepth 100000 in
set_option maxHeartbeats 8000000 in
theorem mPlus_at (n1 d1 n2 d2 : ByteArray) (h1 : n1.size ≤ maxLen) (h2 : d1.size ≤ maxLen) (h3 : n2.size ≤ maxLen) (h4 : d2.size ≤ maxLen) (w : World) (ht : Tab w) : Calls Tryz.prog 17 #[.agg #[.string n1, .string d1], .agg #[.string n2, .string d2]] w (RPost w (opN (· + ·) n1 d1 n2 d2) (opD (· + ·) n1 d1 n2 d2)) := by
 obtain ⟨s, hs⟩ : ∃ s, opN (· + ·) n1 d1 n2 d2 = s := ⟨_, rfl⟩
 obtain ⟨t, htt⟩ : ∃ t, opD (· + ·) n1 d1 n2 d2 = t := ⟨_, rfl⟩
 have HST := Lib.hid (And.intro hs htt)
 rw [hs, htt]
 clear hs htt
 go_enter Tryz.func17, Tryz.ntmps17
 go_upto_region 1 with (fail)
 refine wp_box3r fun W hsz hbW hA hB hC hF => ?_
 have HT := Lib.hid (ht.ext hbW)
 clear hsz ht
 have a0 : W.cell? ⟨w.heap.size, 0, none⟩ = some (.string n1) := hA.2 0
 have a1 : W.cell? ⟨w.heap.size, 1, none⟩ = some (.string d1) := hA.2 1
 have a2 : W.cell? ⟨w.heap.size + 1, 0, none⟩ = some (.string n2) := hB.2 0
 have a3 : W.cell? ⟨w.heap.size + 1, 1, none⟩ = some (.string d2) := hB.2 1
 have HX := Lib.hid (And.intro hC (And.intro hF hbW))
 clear hA hB hC hF hbW
 go_wp2_with fail
 refine (refSum_at n1 d1 n2 d2 h1 h2 h3 h4 W HT.out).mono ?_
 rintro e w1 ⟨rfl, hb1⟩
 rw [HST.out.1, HST.out.2]
 have HX1 := Lib.hid (And.intro (HX.out.1.ext hb1) (And.intro (HX.out.2.1.ext HX.out.1 hb1) (ext_trans HX.out.2.2 hb1)))
 clear a0 a1 a2 a3 HX HT hb1
 go_upto_region 2 with (fail)
 refine wp_box1 fun w2 hsz2 hb2 hR => ?_
 have hC2 := HX1.out.1.ext hb2
 have hF2 := HX1.out.2.1.ext HX1.out.1 hb2
 have hbw2 := ext_trans HX1.out.2.2 hb2
 clear hsz2 HX1 hb2
 generalize w1.heap.size = br at *
 have x0 : w2.cell? ⟨br, 0, none⟩ = some (.string s) := hR.2 0
 have x1 : w2.cell? ⟨br, 1, none⟩ = some (.string t) := hR.2 1
 have r0 : w2.cell? ⟨w.heap.size + 2, 0, none⟩ = some (.string ⟨#[]⟩) := hC2.2 0
 have r1 : w2.cell? ⟨w.heap.size + 2, 1, none⟩ = some (.string ⟨#[]⟩) := hC2.2 1
 have g0 := hF2 0
 have g1 := hF2 1
 have HR := Lib.hid (res2s (.string s) (.string t) hC2 hbw2 (by omega))
 obtain ⟨hbF, z0, z1⟩ := id HR.out
 clear hC2 hF2 hbw2 hR hbF
 go_wp2
 exact bodyPost_ret (v := .agg #[.string s, .string t]) (by simp [results, Tryz.results17, go_sem, z0, z1]) rfl ⟨rfl, HR.out.1⟩
set_option maxRecDepth 100000 in
set_option maxHeartbeats 8000000 in
theorem mTimes_at (n1 d1 n2 d2 : ByteArray) (h1 : n1.size ≤ maxLen) (h2 : d1.size ≤ maxLen) (h3 : n2.size ≤ maxLen) (h4 : d2.size ≤ maxLen) (w : World) (ht : Tab w) : Calls Tryz.prog 19 #[.agg #[.string n1, .string d1], .agg #[.string n2, .string d2]] w (RPost w (opN (· * ·) n1 d1 n2 d2) (opD (· * ·) n1 d1 n2 d2)) := by
 obtain ⟨s, hs⟩ : ∃ s, opN (· * ·) n1 d1 n2 d2 = s := ⟨_, rfl⟩
 obtain ⟨t, htt⟩ : ∃ t, opD (· * ·) n1 d1 n2 d2 = t := ⟨_, rfl⟩
 have HST := Lib.hid (And.intro hs htt)
 rw [hs, htt]
 clear hs htt
 go_enter Tryz.func19, Tryz.ntmps19
 go_upto_region 1 with (fail)
 refine wp_box3r fun W hsz hbW hA hB hC hF => ?_
 have HT := Lib.hid (ht.ext hbW)
 clear hsz ht
 have a0 : W.cell? ⟨w.heap.size, 0, none⟩ = some (.string n1) := hA.2 0
 have a1 : W.cell? ⟨w.heap.size, 1, none⟩ = some (.string d1) := hA.2 1
 have a2 : W.cell? ⟨w.heap.size + 1, 0, none⟩ = some (.string n2) := hB.2 0
 have a3 : W.cell? ⟨w.heap.size + 1, 1, none⟩ = some (.string d2) := hB.2 1
 have HX := Lib.hid (And.intro hC (And.intro hF hbW))
 clear hA hB hC hF hbW
 go_wp2_with fail
 refine (refProduct_at n1 d1 n2 d2 h1 h2 h3 h4 W HT.out).mono ?_
 rintro e w1 ⟨rfl, hb1⟩
 rw [HST.out.1, HST.out.2]
 have HX1 := Lib.hid (And.intro (HX.out.1.ext hb1) (And.intro (HX.out.2.1.ext HX.out.1 hb1) (ext_trans HX.out.2.2 hb1)))
 clear a0 a1 a2 a3 HX HT hb1
 go_upto_region 2 with (fail)
 refine wp_box1 fun w2 hsz2 hb2 hR => ?_
 have hC2 := HX1.out.1.ext hb2
 have hF2 := HX1.out.2.1.ext HX1.out.1 hb2
 have hbw2 := ext_trans HX1.out.2.2 hb2
 clear hsz2 HX1 hb2
 generalize w1.heap.size = br at *
 have x0 : w2.cell? ⟨br, 0, none⟩ = some (.string s) := hR.2 0
 have x1 : w2.cell? ⟨br, 1, none⟩ = some (.string t) := hR.2 1
 have r0 : w2.cell? ⟨w.heap.size + 2, 0, none⟩ = some (.string ⟨#[]⟩) := hC2.2 0
 have r1 : w2.cell? ⟨w.heap.size + 2, 1, none⟩ = some (.string ⟨#[]⟩) := hC2.2 1
 have g0 := hF2 0
 have g1 := hF2 1
 have HR := Lib.hid (res2s (.string s) (.string t) hC2 hbw2 (by omega))
 obtain ⟨hbF, z0, z1⟩ := id HR.out
 clear hC2 hF2 hbw2 hR hbF
 go_wp2
 exact bodyPost_ret (v := .agg #[.string s, .string t]) (by simp [results, Tryz.results19, go_sem, z0, z1]) rfl ⟨rfl, HR.out.1⟩
set_option maxRecDepth 100000 in
set_option maxHeartbeats 8000000 in
theorem mLess_at (n1 d1 n2 d2 : ByteArray) (h1 : n1.size ≤ maxLen) (h2 : d1.size ≤ maxLen) (h3 : n2.size ≤ maxLen) (h4 : d2.size ≤ maxLen) (w : World) (ht : Tab w) : Calls Tryz.prog 16 #[.agg #[.string n1, .string d1], .agg #[.string n2, .string d2]] w (fun e w' => e = .returned (.bool (decide (ordV n1 d1 n2 d2 < 0))) ∧ Below w.heap.size w w') := by
 obtain ⟨o, ho⟩ : ∃ o, ordV n1 d1 n2 d2 = o := ⟨_, rfl⟩
 have HO := Lib.hid ho
 rw [ho]
 clear ho
 go_enter Tryz.func16, Tryz.ntmps16
 go_upto_region 1 with (fail)
 refine wp_box2 fun W hsz hbW hA hB => ?_
 have HT := Lib.hid (ht.ext hbW)
 clear hsz ht
 have a0 : W.cell? ⟨w.heap.size, 0, none⟩ = some (.string n1) := hA.2 0
 have a1 : W.cell? ⟨w.heap.size, 1, none⟩ = some (.string d1) := hA.2 1
 have a2 : W.cell? ⟨w.heap.size + 1, 0, none⟩ = some (.string n2) := hB.2 0
 have a3 : W.cell? ⟨w.heap.size + 1, 1, none⟩ = some (.string d2) := hB.2 1
 clear hA hB
 go_wp2_with fail
 refine (refOrder_at n1 d1 n2 d2 h1 h2 h3 h4 W HT.out).mono ?_
 rintro e w1 ⟨rfl, hb1⟩
 rw [HO.out]
 have hbw1 := ext_trans hbW hb1
 clear a0 a1 a2 a3 HT hb1 hbW
 go_wp2
 all_goals go_ret
 all_goals exact ⟨by simp_all, hbw1⟩
set_option maxRecDepth 100000 in
set_option maxHeartbeats 8000000 in
theorem mOver_at (n1 d1 n2 d2 : ByteArray) (h1 : n1.size ≤ maxLen) (h2 : d1.size ≤ maxLen) (h3 : n2.size ≤ maxLen) (h4 : d2.size ≤ maxLen) (h5 : (iN n2 d2).size ≤ maxLen) (h6 : (iD n2 d2).size ≤ maxLen) (w : World) (ht : Tab w) : Calls Tryz.prog 13 #[.agg #[.string n1, .string d1], .agg #[.string n2, .string d2]] w (RPost w (opN (· * ·) n1 d1 (iN n2 d2) (iD n2 d2)) (opD (· * ·) n1 d1 (iN n2 d2) (iD n2 d2))) := by
 have HI := Lib.hid (fun W (hT : Tab W) => refInverse_at n2 d2 h3 h4 W hT)
 generalize iN n2 d2 = p at *
 generalize iD n2 d2 = q at *
 obtain ⟨s, hs⟩ : ∃ s, opN (· * ·) n1 d1 p q = s := ⟨_, rfl⟩
 obtain ⟨t, htt⟩ : ∃ t, opD (· * ·) n1 d1 p q = t := ⟨_, rfl⟩
 have HST := Lib.hid (And.intro hs htt)
 rw [hs, htt]
 clear hs htt
 go_enter Tryz.func13, Tryz.ntmps13
 go_upto_region 1 with (fail)
 refine wp_box3r fun W hsz hbW hA hB hC hF => ?_
 have HT := Lib.hid (ht.ext hbW)
 clear hsz ht
 have a2 : W.cell? ⟨w.heap.size + 1, 0, none⟩ = some (.string n2) := hB.2 0
 have a3 : W.cell? ⟨w.heap.size + 1, 1, none⟩ = some (.string d2) := hB.2 1
 have HX := Lib.hid (And.intro hC (And.intro hF (And.intro hA hbW)))
 clear hA hB hC hF hbW
 go_wp2_with fail
 refine (HI.out W HT.out).mono ?_
 rintro e w1 ⟨rfl, hb1⟩
 have HX1 := Lib.hid (And.intro (HX.out.1.ext hb1) (And.intro (HX.out.2.1.ext HX.out.1 hb1) (And.intro (HX.out.2.2.1.ext hb1) (ext_trans HX.out.2.2.2 hb1))))
 have HT1 := Lib.hid (HT.out.ext hb1)
 clear a2 a3 HX HT hb1
 go_upto_region 2 with (fail)
 refine wp_box1 fun w2 hsz2 hb2 hR => ?_
 have hA2 := HX1.out.2.2.1.ext hb2
 have HX2 := Lib.hid (And.intro (HX1.out.1.ext hb2) (And.intro (HX1.out.2.1.ext HX1.out.1 hb2) (ext_trans HX1.out.2.2.2 hb2)))
 have HT2 := Lib.hid (HT1.out.ext hb2)
 clear hsz2 HX1 hb2 HT1
 generalize w1.heap.size = br at *
 have x0 : w2.cell? ⟨br, 0, none⟩ = some (.string p) := hR.2 0
 have x1 : w2.cell? ⟨br, 1, none⟩ = some (.string q) := hR.2 1
 have a0 : w2.cell? ⟨w.heap.size, 0, none⟩ = some (.string n1) := hA2.2 0
 have a1 : w2.cell? ⟨w.heap.size, 1, none⟩ = some (.string d1) := hA2.2 1
 clear hA2 hR
 go_wp2_with fail
 refine (mTimes_at n1 d1 p q h1 h2 h5 h6 w2 HT2.out).mono ?_
 rintro e w3 ⟨rfl, hb3⟩
 rw [HST.out.1, HST.out.2]
 have hC2 := HX2.out.1.ext hb3
 have hF2 := HX2.out.2.1.ext HX2.out.1 hb3
 have hbw2 := ext_trans HX2.out.2.2 hb3
 have r0 : w3.cell? ⟨w.heap.size + 2, 0, none⟩ = some (.string ⟨#[]⟩) := hC2.2 0
 have r1 : w3.cell? ⟨w.heap.size + 2, 1, none⟩ = some (.string ⟨#[]⟩) := hC2.2 1
 have g0 := hF2 0
 have g1 := hF2 1
 have HR := Lib.hid (res2s (.string s) (.string t) hC2 hbw2 (by omega))
 obtain ⟨hbF, z0, z1⟩ := id HR.out
 clear hC2 hF2 hbw2 hbF x0 x1 a0 a1 HX2
 go_wp2
 exact bodyPost_ret (v := .agg #[.string s, .string t]) (by simp [results, Tryz.results13, go_sem, z0, z1]) rfl ⟨rfl, HR.out.1⟩
set_option maxRecDepth 100000 in
set_option maxHeartbeats 8000000 in
theorem mMinus_at (n1 d1 n2 d2 p q p' q' s t : ByteArray) (_h1 : n1.size ≤ maxLen) (_h2 : d1.size ≤ maxLen) (HW : Hid (∀ w', Tab w' → Calls Tryz.prog 14 #[.int .i64 (-1)] w' (RPost w' p q)))
  (HM : Hid (∀ w', Tab w' → Calls Tryz.prog 19 #[.agg #[.string p, .string q], .agg #[.string n2, .string d2]] w' (RPost w' p' q'))) (HP : Hid (∀ w', Tab w' → Calls Tryz.prog 17 #[.agg #[.string n1, .string d1], .agg #[.string p', .string q']] w' (RPost w' s t)))
  (w : World) (ht : Tab w) : Calls Tryz.prog 18 #[.agg #[.string n1, .string d1], .agg #[.string n2, .string d2]] w (RPost w s t) := by
 go_enter Tryz.func18, Tryz.ntmps18
 go_upto_region 1 with (fail)
 refine wp_box3r fun W hsz hbW hA hB hC hF => ?_
 have HT := Lib.hid (ht.ext hbW)
 clear hsz ht
 have a0 : W.cell? ⟨w.heap.size, 0, none⟩ = some (.string n1) := hA.2 0
 have a1 : W.cell? ⟨w.heap.size, 1, none⟩ = some (.string d1) := hA.2 1
 have a2 : W.cell? ⟨w.heap.size + 1, 0, none⟩ = some (.string n2) := hB.2 0
 have a3 : W.cell? ⟨w.heap.size + 1, 1, none⟩ = some (.string d2) := hB.2 1
 have HX := Lib.hid (And.intro hC (And.intro hF hbW))
 clear hA hB hC hF hbW
 refine Grow.wp_region_grow 5 [TP.eq (.agg #[.string n1, .string d1]), TP.eq (.agg #[.string p, .string q]), TP.eq (.agg #[.string n2, .string d2]), TP.eq (.agg #[.string p', .string q']), TP.eq (.agg #[.string s, .string t])] [[], [], [], [1, 2], [0, 3]] (by kernel_rfl) (by kernel_rfl) ⟨?o0, ?o1, ?o2, ?o3, ?o4, trivial⟩ ?_
 case o0 =>
  intro w' hb
  have a0' := zzc hb a0
  have a1' := zzc hb a1
  show wpList _ _ _ _ _ _
  go_wp2
  exact ⟨rfl, Below.refl _ _, rfl⟩
 case o1 =>
  intro w' hb
  show wpList _ _ _ _ _ _
  go_wp2_with fail
  refine (HW.out w' (HT.out.ext hb)).mono ?_
  rintro e wz ⟨rfl, hbz⟩
  go_wp2
  exact ⟨rfl, hbz, rfl⟩
 case o2 =>
  intro w' hb
  have a2' := zzc hb a2
  have a3' := zzc hb a3
  show wpList _ _ _ _ _ _
  go_wp2
  exact ⟨rfl, Below.refl _ _, rfl⟩
 case o3 =>
  intro w' hb v1 hv1 v2 hv2
  cases hv1
  cases hv2
  show wpList _ _ _ _ _ _
  simp only [Grow.dstOf, zzp, Act.put]
  go_wp2_with fail
  refine (HM.out w' (HT.out.ext hb)).mono ?_
  rintro e wz ⟨rfl, hbz⟩
  go_wp2
  exact ⟨rfl, hbz, rfl⟩
 case o4 =>
  intro w' hb v1 hv1 v2 hv2
  cases hv1
  cases hv2
  show wpList _ _ _ _ _ _
  simp only [Grow.dstOf, zzp, Act.put]
  go_wp2_with fail
  refine (HP.out w' (HT.out.ext hb)).mono ?_
  rintro e wz ⟨rfl, hbz⟩
  go_wp2
  exact ⟨rfl, hbz, rfl⟩
 intro w7 hb7 v0 h0 v1 h1' v2 h2' v3 h3' v4 h4'
 obtain rfl : v4 = _ := h4'
 clear h0 h1' h2' h3'
 have hC2 := HX.out.1.ext hb7
 have hF2 := HX.out.2.1.ext HX.out.1 hb7
 have hbw2 := ext_trans HX.out.2.2 hb7
 have r0 : w7.cell? ⟨w.heap.size + 2, 0, none⟩ = some (.string ⟨#[]⟩) := hC2.2 0
 have r1 : w7.cell? ⟨w.heap.size + 2, 1, none⟩ = some (.string ⟨#[]⟩) := hC2.2 1
 have g0 := hF2 0
 have g1 := hF2 1
 have HR := Lib.hid (res2s (.string s) (.string t) hC2 hbw2 (by omega))
 obtain ⟨hbF, z0, z1⟩ := id HR.out
 clear hC2 hF2 hbw2 hbF a0 a1 a2 a3 HX
 show wpList _ _ _ _ _ _
 simp only [Act.put, zzp]
 go_wp2
 exact bodyPost_ret (v := .agg #[.string s, .string t]) (by simp [results, Tryz.results18, go_sem, z0, z1]) rfl ⟨rfl, HR.out.1⟩
end Nt
end Go.Proofs.YtlbnjgnbpiidaaaGreatDoor
