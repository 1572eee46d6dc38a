/- Sum of the reference. Printed by gen_rrat8.py. -/
import Derived.Test.YtemenlcigengeaaGreatDoorTq34
import Derived.Test.YtemenlcigengeaaGreatDoorTq46
namespace Go.Proofs.YtemenlcigengeaaGreatDoor
open Go.RowKit
namespace Nt
open _root_.Go.Proofs.YtemenlcigengeaaGreatDoor.Nm (rF rQ sgn outN outD outF AnsPost bF opN opD opF zeroX)
theorem add_norm (x y : Rat) (b : Bool) (n : Nat) (e : x.num * (y.den : Int) + y.num * (x.den : Int) = sgn b n) {h : x.den * y.den ≠ 0} : Rat.normalize (sgn b n) (x.den * y.den) h = x + y := by
  rw [Rat.add_def]
  exact Nm.normalize_congr _ _ e.symm
theorem ge_cmp (l r : Nat) : decide (cmpN l r ≥ 0) = decide (r ≤ l) := by
  unfold cmpN
  by_cases h : r ≤ l
  · rw [decide_eq_true h]; repeat' split
    all_goals first | rfl | omega
  · rw [decide_eq_false h]; repeat' split
    all_goals first | rfl | omega
set_option maxRecDepth 100000 in
set_option maxHeartbeats 16000000 in
theorem refSum_at (n1 d1 n2 d2 : ByteArray) (h1 : n1.size ≤ maxLen) (h2 : d1.size ≤ maxLen) (h3 : n2.size ≤ maxLen) (h4 : d2.size ≤ maxLen) (w : World) (ht : Tab w) : Calls Tryz.prog 79 #[.agg #[.string n1, .string d1], .agg #[.string n2, .string d2]] w (AnsPost w (opN (· + ·) n1 d1 n2 d2) (opD (· + ·) n1 d1 n2 d2) (opF (· + ·) n1 d1 n2 d2)) := by
  have HN : Hid (opN (· + ·) n1 d1 n2 d2 = if bF n1 d1 n2 d2 = 0 then outN (rQ n1 d1 + rQ n2 d2) else ⟨#[]⟩) := Lib.hid rfl
  have HDn : Hid (opD (· + ·) n1 d1 n2 d2 = if bF n1 d1 n2 d2 = 0 then outD (rQ n1 d1 + rQ n2 d2) else ⟨#[]⟩) := Lib.hid rfl
  have HFn : Hid (opF (· + ·) n1 d1 n2 d2 = if bF n1 d1 n2 d2 = 0 then outF (rQ n1 d1 + rQ n2 d2) else bF n1 d1 n2 d2) := Lib.hid rfl
  generalize opN (· + ·) n1 d1 n2 d2 = on at *
  generalize opD (· + ·) n1 d1 n2 d2 = od at *
  generalize opF (· + ·) n1 d1 n2 d2 = of at *
  go_enter Tryz.func79, Tryz.ntmps79
  go_upto_region 1 with (fail)
  refine wp_box3r fun W hsz hbW hA hB hC hF => ?_
  have HT := Lib.hid (ht.ext hbW)
  clear hsz ht
  have a0 : W.cell? ⟨w.heap.size, 0, none⟩ = some (.string n1) := hA.2 0
  have a1 : W.cell? ⟨w.heap.size, 1, none⟩ = some (.string d1) := hA.2 1
  have a2 : W.cell? ⟨w.heap.size + 1, 0, none⟩ = some (.string n2) := hB.2 0
  have a3 : W.cell? ⟨w.heap.size + 1, 1, none⟩ = some (.string d2) := hB.2 1
  go_wp2_with fail
  refine (refBoth_at n1 d1 n2 d2 h1 h2 h3 h4 W HT.out).mono ?_
  rintro e w1 ⟨rfl, hb1⟩
  have hA1 := hA.ext hb1
  have hB1 := hB.ext hb1
  have hC1 := hC.ext hb1
  have hF1 := hF.ext hC hb1
  have hbw1 := ext_trans hbW hb1
  have HT1 := Lib.hid (HT.out.ext hb1)
  clear hA hB hC hF hbW hb1 a0 a1 a2 a3 HT
  have a0 : w1.cell? ⟨w.heap.size, 0, none⟩ = some (.string n1) := hA1.2 0
  have a1 : w1.cell? ⟨w.heap.size, 1, none⟩ = some (.string d1) := hA1.2 1
  have a2 : w1.cell? ⟨w.heap.size + 1, 0, none⟩ = some (.string n2) := hB1.2 0
  have a3 : w1.cell? ⟨w.heap.size + 1, 1, none⟩ = some (.string d2) := hB1.2 1
  clear hA1 hB1
  have HB := Lib.hid (And.intro hC1 (And.intro hF1 hbw1))
  clear hC1 hF1 hbw1
  by_cases hz : bF n1 d1 n2 d2 = 0
  · have hne : (bF n1 d1 n2 d2 != 0) = false := by simp [hz]
    obtain ⟨e1, e2⟩ := bF_zero hz
    have HO1 := Lib.hid (fun w' => open_is n1 d1 h1 e1 w')
    have HO2 := Lib.hid (fun w' => open_is n2 d2 h3 e2 w')
    have HS1 := Lib.hid (small_digs9 e1)
    have HS2 := Lib.hid (small_digs9 e2)
    have HN2 : Hid (on = outN (rQ n1 d1 + rQ n2 d2)) := by have := HN.out; rw [if_pos hz] at this; exact this
    have HD2 : Hid (od = outD (rQ n1 d1 + rQ n2 d2)) := by have := HDn.out; rw [if_pos hz] at this; exact this
    have HF2 : Hid (of = outF (rQ n1 d1 + rQ n2 d2)) := by have := HFn.out; rw [if_pos hz] at this; exact this
    generalize rQ n1 d1 = q1 at *
    generalize rQ n2 d2 = q2 at *
    have hw1 := HS1.out.1
    have hw2 := HS1.out.2
    have hw3 := HS2.out.1
    have hw4 := HS2.out.2
    have hm1 := wlen_mul q1.num.natAbs q2.den
    have hm2 := wlen_mul q2.num.natAbs q1.den
    have hm3 := wlen_mul q1.den q2.den
    have hm4 := wlen_add (q1.num.natAbs * q2.den) (q2.num.natAbs * q1.den)
    have hm5 : wlen (q1.num.natAbs * q2.den - q2.num.natAbs * q1.den) ≤ wlen (q1.num.natAbs * q2.den) := wlen_mono (Nat.sub_le _ _)
    have hm6 : wlen (q2.num.natAbs * q1.den - q1.num.natAbs * q2.den) ≤ wlen (q2.num.natAbs * q1.den) := wlen_mono (Nat.sub_le _ _)
    have HE1 : Hid (decide (q1.num < 0) = decide (q2.num < 0) → ∀ v1 v2 w', N w' v1 ((q1.num.natAbs * q2.den) + (q2.num.natAbs * q1.den)) → N w' v2 (q1.den * q2.den) → Tab w' → Calls Tryz.prog 88 #[.agg #[.bool (decide (q1.num < 0)), v1, v2]] w' (AnsPost w' on od of)) := by
      refine Lib.hid (fun hs v1 v2 w' k1 k2 ht' => ?_)
      have h := shut_at (decide (q1.num < 0)) (q1.num.natAbs * q2.den + q2.num.natAbs * q1.den) (q1.den * q2.den) (Nm.den_pos q1 q2) v1 v2 w' k1 k2 (by omega) (by omega) ht'
      rw [add_norm _ _ _ _ (Nm.add_same hs), ← HN2.out, ← HD2.out, ← HF2.out] at h
      exact h
    have HE2 : Hid (decide (q1.num < 0) ≠ decide (q2.num < 0) → q2.num.natAbs * q1.den ≤ q1.num.natAbs * q2.den → ∀ v1 v2 w', N w' v1 ((q1.num.natAbs * q2.den) - (q2.num.natAbs * q1.den)) → N w' v2 (q1.den * q2.den) → Tab w' → Calls Tryz.prog 88 #[.agg #[.bool (decide (q1.num < 0)), v1, v2]] w' (AnsPost w' on od of)) := by
      refine Lib.hid (fun hs hr v1 v2 w' k1 k2 ht' => ?_)
      have h := shut_at (decide (q1.num < 0)) (q1.num.natAbs * q2.den - q2.num.natAbs * q1.den) (q1.den * q2.den) (Nm.den_pos q1 q2) v1 v2 w' k1 k2 (by omega) (by omega) ht'
      rw [add_norm _ _ _ _ (Nm.add_more hs hr), ← HN2.out, ← HD2.out, ← HF2.out] at h
      exact h
    have HE3 : Hid (decide (q1.num < 0) ≠ decide (q2.num < 0) → q1.num.natAbs * q2.den < q2.num.natAbs * q1.den → ∀ v1 v2 w', N w' v1 ((q2.num.natAbs * q1.den) - (q1.num.natAbs * q2.den)) → N w' v2 (q1.den * q2.den) → Tab w' → Calls Tryz.prog 88 #[.agg #[.bool (decide (q2.num < 0)), v1, v2]] w' (AnsPost w' on od of)) := by
      refine Lib.hid (fun hs hr v1 v2 w' k1 k2 ht' => ?_)
      have h := shut_at (decide (q2.num < 0)) (q2.num.natAbs * q1.den - q1.num.natAbs * q2.den) (q1.den * q2.den) (Nm.den_pos q1 q2) v1 v2 w' k1 k2 (by omega) (by omega) ht'
      rw [add_norm _ _ _ _ (Nm.add_less hs hr), ← HN2.out, ← HD2.out, ← HF2.out] at h
      exact h
    clear hm4 hm5 hm6
    clear hz HN HDn HFn HN2 HD2 HF2 e1 e2
    go_upto_region 4 with (fail)
    refine Grow.wp_region_grow2 6 [.is (TP.eq (.agg #[.string n1, .string d1])), .is (TP.frac (decide (q1.num < 0)) q1.num.natAbs q1.den), .is (TP.eq (.agg #[.string n2, .string d2])), .is (TP.frac (decide (q2.num < 0)) q2.num.natAbs q2.den), .new zeroX, .new zeroX] [[], [0], [], [2], [], []] (by kernel_rfl) (by kernel_rfl) ⟨?p0, ?p1, ?p2, ?p3, ?p4, ?p5, trivial⟩ ?_
    case p0 =>
      intro w' hb
      have ca : w'.cell? ⟨w.heap.size, 0, none⟩ = some (.string n1) := (hb.cell (World.block_lt_of_cell? _ _ a0)).trans a0
      have cb : w'.cell? ⟨w.heap.size, 1, none⟩ = some (.string d1) := (hb.cell (World.block_lt_of_cell? _ _ a1)).trans a1
      show wpList _ _ _ _ _ _
      go_wp2
      exact ⟨rfl, Below.refl _ _, rfl⟩
    case p1 =>
      intro w' hb v1 hv1
      obtain rfl : v1 = _ := hv1
      show wpList _ _ _ _ _ _
      simp only [Grow.dstOf, List.getElem?_toArray, List.getElem?_cons_zero, Option.bind_some, Act.put, List.setIfInBounds_toArray, List.set_cons_succ, List.set_cons_zero]
      go_wp2_with fail
      refine (HO1.out w').mono ?_
      rintro e wz ⟨z1, z2, rfl, hx1, hx2, hbz⟩
      have HX1 := Lib.hid hx1
      have HX2 := Lib.hid hx2
      clear hx1 hx2
      go_wp2
      exact ⟨⟨_, _, rfl, HX1.out, HX2.out⟩, hbz, rfl⟩
    case p2 =>
      intro w' hb
      have ca : w'.cell? ⟨w.heap.size + 1, 0, none⟩ = some (.string n2) := (hb.cell (World.block_lt_of_cell? _ _ a2)).trans a2
      have cb : w'.cell? ⟨w.heap.size + 1, 1, none⟩ = some (.string d2) := (hb.cell (World.block_lt_of_cell? _ _ a3)).trans a3
      show wpList _ _ _ _ _ _
      go_wp2
      exact ⟨rfl, Below.refl _ _, rfl⟩
    case p3 =>
      intro w' hb v1 hv1
      obtain rfl : v1 = _ := hv1
      show wpList _ _ _ _ _ _
      simp only [Grow.dstOf, List.getElem?_toArray, List.getElem?_cons_succ, List.getElem?_cons_zero, Option.bind_some, Act.put, List.setIfInBounds_toArray, List.set_cons_succ, List.set_cons_zero]
      go_wp2_with fail
      refine (HO2.out w').mono ?_
      rintro e wz ⟨z1, z2, rfl, hx1, hx2, hbz⟩
      have HX1 := Lib.hid hx1
      have HX2 := Lib.hid hx2
      clear hx1 hx2
      go_wp2
      exact ⟨⟨_, _, rfl, HX1.out, HX2.out⟩, hbz, rfl⟩
    case p4 =>
      intro w' hb
      show wpList _ _ _ _ _ _
      go_wp2
      exact ⟨⟨_, rfl, Nat.le_refl _, Box.new _ _ _, Fre.new _ _ _⟩, ext_alloc _ _, rfl⟩
    case p5 =>
      intro w' hb
      show wpList _ _ _ _ _ _
      go_wp2
      exact ⟨⟨_, rfl, Nat.le_refl _, Box.new _ _ _, Fre.new _ _ _⟩, ext_alloc _ _, rfl⟩
    intro w7 hb7 v0 h0 v1 h1 v2 h2 v3 h3 v4 h4 v5 h5 hpw
    have hne : v4 ≠ v5 := hpw 4 5 (by omega) (by omega) (by omega) rfl rfl
    have g1 : ∃ u1 u2, v1 = .agg #[.bool (decide (q1.num < 0)), u1, u2] ∧ N w7 u1 q1.num.natAbs ∧ N w7 u2 q1.den := h1
    have g3 : ∃ u1 u2, v3 = .agg #[.bool (decide (q2.num < 0)), u1, u2] ∧ N w7 u1 q2.num.natAbs ∧ N w7 u2 q2.den := h3
    have g4 : ∃ g, v4 = .pointer (some ⟨g, 0, none⟩) ∧ w1.heap.size ≤ g ∧ Box w7 g zeroX ∧ Fre w7 g := h4
    have g5 : ∃ g, v5 = .pointer (some ⟨g, 0, none⟩) ∧ w1.heap.size ≤ g ∧ Box w7 g zeroX ∧ Fre w7 g := h5
    clear h0 h1 h2 h3 h4 h5 hpw
    obtain ⟨u1, u2, rfl, k1, k2⟩ := g1
    obtain ⟨u3, u4, rfl, k3, k4⟩ := g3
    obtain ⟨g, rfl, hgl, hgB, hgF⟩ := g4
    obtain ⟨g', rfl, hgl', hgB', hgF'⟩ := g5
    have hgg : g ≠ g' := fun e => hne (by rw [e])
    have hgg' : g' ≠ g := fun e => hgg e.symm
    obtain ⟨m1, c1, rfl, _⟩ := k1.open_
    obtain ⟨m2, c2, rfl, _⟩ := k2.open_
    obtain ⟨m3, c3, rfl, _⟩ := k3.open_
    obtain ⟨m4, c4, rfl, _⟩ := k4.open_
    have HP := Lib.hid (pairSet (b := decide (q1.num < 0)) (b' := decide (q2.num < 0)) hgB hgB' hgg k1 k2 k3 k4 hb7 hgl hgl')
    obtain ⟨r0, r1, r2⟩ := Nm.boxX hgB
    obtain ⟨r3, r4, r5⟩ := Nm.boxX hgB'
    have f0 := hgF 0
    have f1 := hgF 1
    have f2 := hgF 2
    have f3 := hgF' 0
    have f4 := hgF' 1
    have f5 := hgF' 2
    clear hne k1 k2 k3 k4 hgB hgF hgB' hgF' hb7
    show wpList _ _ _ _ _ _
    simp only [Act.put, List.setIfInBounds_toArray, List.set_cons_succ, List.set_cons_zero]
    go_upto_region 5 with (fail)
    clear r0 r1 r2 r3 r4 r5 f0 f1 f2 f3 f4 f5
    obtain ⟨X, hX⟩ : ∃ X, X = (((((w7.setCell ⟨g, 0, none⟩ (.bool (decide (q1.num < 0)))).setCell ⟨g, 1, none⟩ (.slice m1 (digs q1.num.natAbs).length c1)).setCell ⟨g, 2, none⟩ (.slice m2 (digs q1.den).length c2)).setCell ⟨g', 0, none⟩ (.bool (decide (q2.num < 0)))).setCell ⟨g', 1, none⟩ (.slice m3 (digs q2.num.natAbs).length c3)).setCell ⟨g', 2, none⟩ (.slice m4 (digs q2.den).length c4) := ⟨_, rfl⟩
    rw [← hX]
    have HPX : Hid ((Box X g #[.bool (decide (q1.num < 0)), .slice m1 (digs q1.num.natAbs).length c1, .slice m2 (digs q1.den).length c2] ∧ Box X g' #[.bool (decide (q2.num < 0)), .slice m3 (digs q2.num.natAbs).length c3, .slice m4 (digs q2.den).length c4]) ∧ (N X (.slice m1 (digs q1.num.natAbs).length c1) q1.num.natAbs ∧ N X (.slice m2 (digs q1.den).length c2) q1.den ∧ N X (.slice m3 (digs q2.num.natAbs).length c3) q2.num.natAbs ∧ N X (.slice m4 (digs q2.den).length c4) q2.den) ∧ Below w1.heap.size w1 X) := by
      have h := HP.out
      rw [hX]
      exact Lib.hid h
    clear hX HP hgg hgg'
    obtain ⟨⟨hbx, hby⟩, ⟨hn1, hn2, hn3, hn4⟩, hbX⟩ := id HPX.out
    have HNX := Lib.hid (And.intro hn1 (And.intro hn2 (And.intro hn3 hn4)))
    have x0 : X.cell? ⟨g, 0, none⟩ = some (.bool (decide (q1.num < 0))) := hbx.2 0
    have x1 : X.cell? ⟨g, 1, none⟩ = some (.slice m1 (digs q1.num.natAbs).length c1) := hbx.2 1
    have x2 : X.cell? ⟨g, 2, none⟩ = some (.slice m2 (digs q1.den).length c2) := hbx.2 2
    have y0 : X.cell? ⟨g', 0, none⟩ = some (.bool (decide (q2.num < 0))) := hby.2 0
    have y1 : X.cell? ⟨g', 1, none⟩ = some (.slice m3 (digs q2.num.natAbs).length c3) := hby.2 1
    have y2 : X.cell? ⟨g', 2, none⟩ = some (.slice m4 (digs q2.den).length c4) := hby.2 2
    clear hbx hby hn1 hn2 hn3 hn4 HPX
    have HX0 := Lib.hid x0
    have HY0 := Lib.hid y0
    obtain ⟨L, HL⟩ : ∃ L, Hid (L = q1.num.natAbs * q2.den) := ⟨_, Lib.hid rfl⟩
    obtain ⟨R, HR⟩ : ∃ R, Hid (R = q2.num.natAbs * q1.den) := ⟨_, Lib.hid rfl⟩
    obtain ⟨D, HD⟩ : ∃ D, Hid (D = q1.den * q2.den) := ⟨_, Lib.hid rfl⟩
    have hLl : wlen L ≤ 100000000 := by rw [HL.out]; omega
    have hRl : wlen R ≤ 100000000 := by rw [HR.out]; omega
    have hDl : wlen D ≤ 100000000 := by rw [HD.out]; omega
    rw [← HL.out, ← HR.out, ← HD.out] at HE1 HE2 HE3
    obtain ⟨b1, hb1⟩ : ∃ b, decide (q1.num < 0) = b := ⟨_, rfl⟩
    obtain ⟨b2, hb2⟩ : ∃ b, decide (q2.num < 0) = b := ⟨_, rfl⟩
    rw [hb1] at HE1 HE2 HE3 x0 ⊢
    rw [hb2] at HE1 HE2 HE3 y0 ⊢
    clear a0 a1 a2 a3 HO1 HO2 HX0 HY0 hm1 hm2 hm3 hb1 hb2
    go_wp2_with fail
    refine (times_at q1.den q2.den _ _ X HNX.out.2.1 HNX.out.2.2.2 (by omega) (by omega)).mono ?_
    rintro e wd ⟨vd, rfl, hd, hbd⟩
    rw [← HD.out] at hd
    obtain ⟨md, cd, rfl, _⟩ := hd.open_
    have hx0 := (hbd.cell (World.block_lt_of_cell? _ _ x0)).trans x0
    have hx1 := (hbd.cell (World.block_lt_of_cell? _ _ x1)).trans x1
    have hx2 := (hbd.cell (World.block_lt_of_cell? _ _ x2)).trans x2
    have hy0 := (hbd.cell (World.block_lt_of_cell? _ _ y0)).trans y0
    have hy1 := (hbd.cell (World.block_lt_of_cell? _ _ y1)).trans y1
    have hy2 := (hbd.cell (World.block_lt_of_cell? _ _ y2)).trans y2
    have HND := Lib.hid hd
    have HNX2 := Lib.hid (And.intro (HNX.out.1.ext hbd) (And.intro (HNX.out.2.1.ext hbd) (And.intro (HNX.out.2.2.1.ext hbd) (HNX.out.2.2.2.ext hbd))))
    have hbXd := ext_trans hbX hbd
    clear x0 x1 x2 y0 y1 y2 HNX hbX hbd hd
    have x0 := hx0
    have x1 := hx1
    have x2 := hx2
    have y0 := hy0
    have y1 := hy1
    have y2 := hy2
    have HNX := HNX2
    have hbX := hbXd
    clear hx0 hx1 hx2 hy0 hy1 hy2 HNX2 hbXd
    go_upto_region 6 with (fail)
    refine Grow.wp_region_grow 10 [TP.eq (.pointer (some ⟨g, 1, none⟩)), TP.eq (.slice m1 (digs q1.num.natAbs).length c1), TP.eq (.pointer (some ⟨g', 2, none⟩)), TP.eq (.slice m4 (digs q2.den).length c4), TP.nat L, TP.eq (.pointer (some ⟨g', 1, none⟩)), TP.eq (.slice m3 (digs q2.num.natAbs).length c3), TP.eq (.pointer (some ⟨g, 2, none⟩)), TP.eq (.slice m2 (digs q1.den).length c2), TP.nat R] [[], [0], [], [2], [1, 3], [], [5], [], [7], [6, 8]] (by kernel_rfl) (by kernel_rfl) ⟨?r0, ?r1, ?r2, ?r3, ?r4, ?r5, ?r6, ?r7, ?r8, ?r9, trivial⟩ ?_
    case r0 =>
      intro w' hb
      show wpList _ _ _ _ _ _
      go_wp2
      exact ⟨rfl, Below.refl _ _, rfl⟩
    case r1 =>
      intro w' hb v1 hv1
      obtain rfl : v1 = _ := hv1
      have ca : w'.cell? ⟨g, 1, none⟩ = some (.slice m1 (digs q1.num.natAbs).length c1) := (hb.cell (World.block_lt_of_cell? _ _ x1)).trans x1
      show wpList _ _ _ _ _ _
      simp only [Grow.dstOf, List.getElem?_toArray, List.getElem?_cons_zero, Option.bind_some, Act.put, List.setIfInBounds_toArray, List.set_cons_succ, List.set_cons_zero]
      go_wp2
      exact ⟨rfl, Below.refl _ _, rfl⟩
    case r2 =>
      intro w' hb
      show wpList _ _ _ _ _ _
      go_wp2
      exact ⟨rfl, Below.refl _ _, rfl⟩
    case r3 =>
      intro w' hb v1 hv1
      obtain rfl : v1 = _ := hv1
      have ca : w'.cell? ⟨g', 2, none⟩ = some (.slice m4 (digs q2.den).length c4) := (hb.cell (World.block_lt_of_cell? _ _ y2)).trans y2
      show wpList _ _ _ _ _ _
      simp only [Grow.dstOf, List.getElem?_toArray, List.getElem?_cons_succ, List.getElem?_cons_zero, Option.bind_some, Act.put, List.setIfInBounds_toArray, List.set_cons_succ, List.set_cons_zero]
      go_wp2
      exact ⟨rfl, Below.refl _ _, rfl⟩
    case r4 =>
      intro w' hb v1 hv1 v2 hv2
      obtain rfl : v1 = _ := hv1
      obtain rfl : v2 = _ := hv2
      show wpList _ _ _ _ _ _
      simp only [Grow.dstOf, List.getElem?_toArray, List.getElem?_cons_succ, List.getElem?_cons_zero, Option.bind_some, Act.put, List.setIfInBounds_toArray, List.set_cons_succ, List.set_cons_zero]
      go_wp2_with fail
      refine (times_at (q1.num.natAbs) (q2.den) _ _ w' (HNX.out.1.ext hb) (HNX.out.2.2.2.ext hb) (by omega) (by omega)).mono ?_
      rintro e wz ⟨vz, rfl, hxz, hbz⟩
      rw [← HL.out] at hxz
      have HXZ := Lib.hid hxz
      clear hxz
      go_wp2
      exact ⟨HXZ.out, hbz, rfl⟩
    case r5 =>
      intro w' hb
      show wpList _ _ _ _ _ _
      go_wp2
      exact ⟨rfl, Below.refl _ _, rfl⟩
    case r6 =>
      intro w' hb v1 hv1
      obtain rfl : v1 = _ := hv1
      have ca : w'.cell? ⟨g', 1, none⟩ = some (.slice m3 (digs q2.num.natAbs).length c3) := (hb.cell (World.block_lt_of_cell? _ _ y1)).trans y1
      show wpList _ _ _ _ _ _
      simp only [Grow.dstOf, List.getElem?_toArray, List.getElem?_cons_succ, List.getElem?_cons_zero, Option.bind_some, Act.put, List.setIfInBounds_toArray, List.set_cons_succ, List.set_cons_zero]
      go_wp2
      exact ⟨rfl, Below.refl _ _, rfl⟩
    case r7 =>
      intro w' hb
      show wpList _ _ _ _ _ _
      go_wp2
      exact ⟨rfl, Below.refl _ _, rfl⟩
    case r8 =>
      intro w' hb v1 hv1
      obtain rfl : v1 = _ := hv1
      have ca : w'.cell? ⟨g, 2, none⟩ = some (.slice m2 (digs q1.den).length c2) := (hb.cell (World.block_lt_of_cell? _ _ x2)).trans x2
      show wpList _ _ _ _ _ _
      simp only [Grow.dstOf, List.getElem?_toArray, List.getElem?_cons_succ, List.getElem?_cons_zero, Option.bind_some, Act.put, List.setIfInBounds_toArray, List.set_cons_succ, List.set_cons_zero]
      go_wp2
      exact ⟨rfl, Below.refl _ _, rfl⟩
    case r9 =>
      intro w' hb v1 hv1 v2 hv2
      obtain rfl : v1 = _ := hv1
      obtain rfl : v2 = _ := hv2
      show wpList _ _ _ _ _ _
      simp only [Grow.dstOf, List.getElem?_toArray, List.getElem?_cons_succ, List.getElem?_cons_zero, Option.bind_some, Act.put, List.setIfInBounds_toArray, List.set_cons_succ, List.set_cons_zero]
      go_wp2_with fail
      refine (times_at (q2.num.natAbs) (q1.den) _ _ w' (HNX.out.2.2.1.ext hb) (HNX.out.2.1.ext hb) (by omega) (by omega)).mono ?_
      rintro e wz ⟨vz, rfl, hxz, hbz⟩
      rw [← HR.out] at hxz
      have HXZ := Lib.hid hxz
      clear hxz
      go_wp2
      exact ⟨HXZ.out, hbz, rfl⟩
    intro w8 hb8 v0 h0 v1 h1 v2 h2 v3 h3 v4 h4 v5 h5 v6 h6 v7 h7 v8 h8 v9 h9
    have kl : N w8 v4 L := h4
    have kr : N w8 v9 R := h9
    clear h0 h1 h2 h3 h4 h5 h6 h7 h8 h9
    obtain ⟨ml, cl, rfl, _⟩ := kl.open_
    obtain ⟨mr, cr, rfl, _⟩ := kr.open_
    have HLR := Lib.hid (And.intro kl (And.intro kr (HND.out.ext hb8)))
    have s0 : w8.cell? ⟨g, 0, none⟩ = some (.bool b1) := (hb8.cell (World.block_lt_of_cell? _ _ x0)).trans x0
    have s1 : w8.cell? ⟨g', 0, none⟩ = some (.bool b2) := (hb8.cell (World.block_lt_of_cell? _ _ y0)).trans y0
    have hbX8 := ext_trans hbX hb8
    have HBZ := Lib.hid (And.intro (HB.out.1.ext hbX8) (And.intro (HB.out.2.1.ext HB.out.1 hbX8) (ext_trans HB.out.2.2 hbX8)))
    have HTZ := Lib.hid (HT1.out.ext hbX8)
    clear kl kr x0 x1 x2 y0 y1 y2 hb8 hbX hbX8 HB HT1 HNX HND
    show wpList _ _ _ _ _ _
    simp only [Act.put, List.setIfInBounds_toArray, List.set_cons_succ, List.set_cons_zero]
    clear HS1 HS2 hw1 hw2 hw3 hw4
    go_upto_region 7 with (fail)
    by_cases hbb : b1 = b2
    · have hq : (b1 == b2) = true := by simp [hbb]
      have HE := Lib.hid (HE1.out hbb)
      clear hbb HE1 HE2 HE3
      go_upto_region 8 with (fail)
      refine Grow.wp_region_grow 10 [TP.eq (.pointer (some ⟨g, 0, none⟩)), TP.eq (.bool b1), TP.eq (.slice ml (digs L).length cl), TP.eq (.slice mr (digs R).length cr), TP.nat (L + R), TP.eq (.slice md (digs D).length cd), TP.frac b1 (L + R) D, TP.eq (.tuple #[.agg #[.string on, .string od], .int .i64 of]), TP.eq (.agg #[.string on, .string od]), TP.eq (.int .i64 of)] [[], [0], [], [], [2, 3], [], [1, 4, 5], [6], [7], [7]] (by kernel_rfl) (by kernel_rfl) ⟨?e0, ?e1, ?e2, ?e3, ?e4, ?e5, ?e6, ?e7, ?e8, ?e9, trivial⟩ ?_
      case e0 =>
        intro w' hb
        show wpList _ _ _ _ _ _
        go_wp2
        exact ⟨rfl, Below.refl _ _, rfl⟩
      case e1 =>
        intro w' hb v1 hv1
        obtain rfl : v1 = _ := hv1
        have ca : w'.cell? ⟨g, 0, none⟩ = some (.bool b1) := (hb.cell (World.block_lt_of_cell? _ _ s0)).trans s0
        show wpList _ _ _ _ _ _
        simp only [Grow.dstOf, List.getElem?_toArray, List.getElem?_cons_zero, Option.bind_some, Act.put, List.setIfInBounds_toArray, List.set_cons_succ, List.set_cons_zero]
        go_wp2
        exact ⟨rfl, Below.refl _ _, rfl⟩
      case e2 =>
        intro w' hb
        show wpList _ _ _ _ _ _
        go_wp2
        exact ⟨rfl, Below.refl _ _, rfl⟩
      case e3 =>
        intro w' hb
        show wpList _ _ _ _ _ _
        go_wp2
        exact ⟨rfl, Below.refl _ _, rfl⟩
      case e4 =>
        intro w' hb v1 hv1 v2 hv2
        obtain rfl : v1 = _ := hv1
        obtain rfl : v2 = _ := hv2
        show wpList _ _ _ _ _ _
        simp only [Grow.dstOf, List.getElem?_toArray, List.getElem?_cons_succ, List.getElem?_cons_zero, Option.bind_some, Act.put, List.setIfInBounds_toArray, List.set_cons_succ, List.set_cons_zero]
        go_wp2_with fail
        refine (plus_at L R _ _ w' (HLR.out.1.ext hb) (HLR.out.2.1.ext hb) (by omega) (by omega)).mono ?_
        rintro e wz ⟨vz, rfl, hxz, hbz⟩
        have HXZ := Lib.hid hxz
        clear hxz
        go_wp2
        exact ⟨HXZ.out, hbz, rfl⟩
      case e5 =>
        intro w' hb
        show wpList _ _ _ _ _ _
        go_wp2
        exact ⟨rfl, Below.refl _ _, rfl⟩
      case e6 =>
        intro w' hb v1 hv1 v2 hv2 v3 hv3
        obtain rfl : v1 = _ := hv1
        obtain rfl : v3 = _ := hv3
        have hk1 : N w' v2 (L + R) := hv2
        obtain ⟨m5, c5, rfl, _⟩ := hk1.open_
        have HK1 := Lib.hid hk1
        have HK2 := Lib.hid (HLR.out.2.2.ext hb)
        clear hv2 hk1
        show wpList _ _ _ _ _ _
        simp only [Grow.dstOf, List.getElem?_toArray, List.getElem?_cons_succ, List.getElem?_cons_zero, Option.bind_some, Act.put, List.setIfInBounds_toArray, List.set_cons_succ, List.set_cons_zero]
        go_wp2
        exact ⟨⟨_, _, rfl, HK1.out, HK2.out⟩, Below.refl _ _, rfl⟩
      case e7 =>
        intro w' hb v1 hv1
        have hk : ∃ u1 u2, v1 = .agg #[.bool b1, u1, u2] ∧ N w' u1 (L + R) ∧ N w' u2 D := hv1
        clear hv1
        obtain ⟨w1', w2', rfl, hk1, hk2⟩ := hk
        have HK1 := Lib.hid hk1
        have HK2 := Lib.hid hk2
        clear hk1 hk2
        show wpList _ _ _ _ _ _
        simp only [Grow.dstOf, List.getElem?_toArray, List.getElem?_cons_succ, List.getElem?_cons_zero, Option.bind_some, Act.put, List.setIfInBounds_toArray, List.set_cons_succ, List.set_cons_zero]
        go_wp2_with fail
        refine (HE.out _ _ w' HK1.out HK2.out (HTZ.out.ext hb)).mono ?_
        rintro e wz ⟨rfl, hbz⟩
        go_wp2
        exact ⟨rfl, hbz, rfl⟩
      case e8 =>
        intro w' hb v1 hv1
        obtain rfl : v1 = _ := hv1
        show wpList _ _ _ _ _ _
        simp only [Grow.dstOf, List.getElem?_toArray, List.getElem?_cons_succ, List.getElem?_cons_zero, Option.bind_some, Act.put, List.setIfInBounds_toArray, List.set_cons_succ, List.set_cons_zero]
        go_wp2
        exact ⟨rfl, Below.refl _ _, rfl⟩
      case e9 =>
        intro w' hb v1 hv1
        obtain rfl : v1 = _ := hv1
        show wpList _ _ _ _ _ _
        simp only [Grow.dstOf, List.getElem?_toArray, List.getElem?_cons_succ, List.getElem?_cons_zero, Option.bind_some, Act.put, List.setIfInBounds_toArray, List.set_cons_succ, List.set_cons_zero]
        go_wp2
        exact ⟨rfl, Below.refl _ _, rfl⟩
      intro w9 hb9 v0 h0 v1 h1 v2 h2 v3 h3 v4 h4 v5 h5 v6 h6 v7 h7 v8 h8 v9 h9
      obtain rfl : v8 = _ := h8
      obtain rfl : v9 = _ := h9
      clear h0 h1 h2 h3 h4 h5 h6 h7
      have hC9 := HBZ.out.1.ext hb9
      have hF9 := HBZ.out.2.1.ext HBZ.out.1 hb9
      have hbw9 := ext_trans HBZ.out.2.2 hb9
      have HR := Lib.hid (res2s (.string on) (.string od) hC9 hbw9 (by omega))
      obtain ⟨hbF, z0, z1⟩ := id HR.out
      have r0 : w9.cell? ⟨w.heap.size + 2, 0, none⟩ = some (.string ⟨#[]⟩) := hC9.2 0
      have r1 : w9.cell? ⟨w.heap.size + 2, 1, none⟩ = some (.string ⟨#[]⟩) := hC9.2 1
      have g0 := hF9 0
      have g1 := hF9 1
      clear hbF s0 s1 hC9 hF9 hbw9 hb9
      show wpList _ _ _ _ _ _
      simp only [Act.put, List.setIfInBounds_toArray, List.set_cons_succ, List.set_cons_zero]
      go_wp2
      exact bodyPost_ret (v := .tuple #[.agg #[.string on, .string od], .int .i64 of]) (by simp [results, Tryz.results79, go_sem, z0, z1]) rfl ⟨rfl, HR.out.1⟩
    · have hq : (b1 == b2) = false := by simp [hbb]
      have HEA := Lib.hid (HE2.out hbb)
      have HEB := Lib.hid (HE3.out hbb)
      clear hbb HE1 HE2 HE3
      go_wp2_with fail
      refine (order_at L R _ _ w8 HLR.out.1 HLR.out.2.1).mono ?_
      rintro e wq ⟨rfl, kq, hwq⟩
      have hbq : Below w8.heap.size w8 wq := by rw [hwq]; exact below_drewN (Below.refl _ _) kq
      clear hwq
      have HLR2 := Lib.hid (And.intro (HLR.out.1.ext hbq) (And.intro (HLR.out.2.1.ext hbq) (HLR.out.2.2.ext hbq)))
      have hs0 := (hbq.cell (World.block_lt_of_cell? _ _ s0)).trans s0
      have hs1 := (hbq.cell (World.block_lt_of_cell? _ _ s1)).trans s1
      have HBZ2 := Lib.hid (And.intro (HBZ.out.1.ext hbq) (And.intro (HBZ.out.2.1.ext HBZ.out.1 hbq) (ext_trans HBZ.out.2.2 hbq)))
      have HTZ2 := Lib.hid (HTZ.out.ext hbq)
      clear s0 s1 HLR HBZ HTZ hbq
      have s0 := hs0
      have s1 := hs1
      have HLR := HLR2
      have HBZ := HBZ2
      have HTZ := HTZ2
      clear hs0 hs1 HLR2 HBZ2 HTZ2
      have HGE := Lib.hid (ge_cmp L R)
      by_cases hle : R ≤ L
      · have HLE := Lib.hid hle
        have hge : decide (cmpN L R ≥ 0) = true := HGE.out.trans (decide_eq_true hle)
        have HE := Lib.hid (HEA.out hle)
        clear HEA HEB hle HGE
        go_upto_region 10 with (fail)
        refine Grow.wp_region_grow 10 [TP.eq (.pointer (some ⟨g, 0, none⟩)), TP.eq (.bool b1), TP.eq (.slice ml (digs L).length cl), TP.eq (.slice mr (digs R).length cr), TP.nat (L - R), TP.eq (.slice md (digs D).length cd), TP.frac b1 (L - R) D, TP.eq (.tuple #[.agg #[.string on, .string od], .int .i64 of]), TP.eq (.agg #[.string on, .string od]), TP.eq (.int .i64 of)] [[], [0], [], [], [2, 3], [], [1, 4, 5], [6], [7], [7]] (by kernel_rfl) (by kernel_rfl) ⟨?f0, ?f1, ?f2, ?f3, ?f4, ?f5, ?f6, ?f7, ?f8, ?f9, trivial⟩ ?_
        case f0 =>
          intro w' hb
          show wpList _ _ _ _ _ _
          go_wp2
          exact ⟨rfl, Below.refl _ _, rfl⟩
        case f1 =>
          intro w' hb v1 hv1
          obtain rfl : v1 = _ := hv1
          have ca : w'.cell? ⟨g, 0, none⟩ = some (.bool b1) := (hb.cell (World.block_lt_of_cell? _ _ s0)).trans s0
          show wpList _ _ _ _ _ _
          simp only [Grow.dstOf, List.getElem?_toArray, List.getElem?_cons_zero, Option.bind_some, Act.put, List.setIfInBounds_toArray, List.set_cons_succ, List.set_cons_zero]
          go_wp2
          exact ⟨rfl, Below.refl _ _, rfl⟩
        case f2 =>
          intro w' hb
          show wpList _ _ _ _ _ _
          go_wp2
          exact ⟨rfl, Below.refl _ _, rfl⟩
        case f3 =>
          intro w' hb
          show wpList _ _ _ _ _ _
          go_wp2
          exact ⟨rfl, Below.refl _ _, rfl⟩
        case f4 =>
          intro w' hb v1 hv1 v2 hv2
          obtain rfl : v1 = _ := hv1
          obtain rfl : v2 = _ := hv2
          show wpList _ _ _ _ _ _
          simp only [Grow.dstOf, List.getElem?_toArray, List.getElem?_cons_succ, List.getElem?_cons_zero, Option.bind_some, Act.put, List.setIfInBounds_toArray, List.set_cons_succ, List.set_cons_zero]
          go_wp2_with fail
          refine (minus_at L R _ _ w' (HLR.out.1.ext hb) (HLR.out.2.1.ext hb) HLE.out (by omega)).mono ?_
          rintro e wz ⟨vz, rfl, hxz, hbz⟩
          have HXZ := Lib.hid hxz
          clear hxz
          go_wp2
          exact ⟨HXZ.out, hbz, rfl⟩
        case f5 =>
          intro w' hb
          show wpList _ _ _ _ _ _
          go_wp2
          exact ⟨rfl, Below.refl _ _, rfl⟩
        case f6 =>
          intro w' hb v1 hv1 v2 hv2 v3 hv3
          obtain rfl : v1 = _ := hv1
          obtain rfl : v3 = _ := hv3
          have hk1 : N w' v2 (L - R) := hv2
          obtain ⟨m5, c5, rfl, _⟩ := hk1.open_
          have HK1 := Lib.hid hk1
          have HK2 := Lib.hid (HLR.out.2.2.ext hb)
          clear hv2 hk1
          show wpList _ _ _ _ _ _
          simp only [Grow.dstOf, List.getElem?_toArray, List.getElem?_cons_succ, List.getElem?_cons_zero, Option.bind_some, Act.put, List.setIfInBounds_toArray, List.set_cons_succ, List.set_cons_zero]
          go_wp2
          exact ⟨⟨_, _, rfl, HK1.out, HK2.out⟩, Below.refl _ _, rfl⟩
        case f7 =>
          intro w' hb v1 hv1
          have hk : ∃ u1 u2, v1 = .agg #[.bool b1, u1, u2] ∧ N w' u1 (L - R) ∧ N w' u2 D := hv1
          clear hv1
          obtain ⟨w1', w2', rfl, hk1, hk2⟩ := hk
          have HK1 := Lib.hid hk1
          have HK2 := Lib.hid hk2
          clear hk1 hk2
          show wpList _ _ _ _ _ _
          simp only [Grow.dstOf, List.getElem?_toArray, List.getElem?_cons_succ, List.getElem?_cons_zero, Option.bind_some, Act.put, List.setIfInBounds_toArray, List.set_cons_succ, List.set_cons_zero]
          go_wp2_with fail
          refine (HE.out _ _ w' HK1.out HK2.out (HTZ.out.ext hb)).mono ?_
          rintro e wz ⟨rfl, hbz⟩
          go_wp2
          exact ⟨rfl, hbz, rfl⟩
        case f8 =>
          intro w' hb v1 hv1
          obtain rfl : v1 = _ := hv1
          show wpList _ _ _ _ _ _
          simp only [Grow.dstOf, List.getElem?_toArray, List.getElem?_cons_succ, List.getElem?_cons_zero, Option.bind_some, Act.put, List.setIfInBounds_toArray, List.set_cons_succ, List.set_cons_zero]
          go_wp2
          exact ⟨rfl, Below.refl _ _, rfl⟩
        case f9 =>
          intro w' hb v1 hv1
          obtain rfl : v1 = _ := hv1
          show wpList _ _ _ _ _ _
          simp only [Grow.dstOf, List.getElem?_toArray, List.getElem?_cons_succ, List.getElem?_cons_zero, Option.bind_some, Act.put, List.setIfInBounds_toArray, List.set_cons_succ, List.set_cons_zero]
          go_wp2
          exact ⟨rfl, Below.refl _ _, rfl⟩
        intro w9 hb9 v0 h0 v1 h1 v2 h2 v3 h3 v4 h4 v5 h5 v6 h6 v7 h7 v8 h8 v9 h9
        obtain rfl : v8 = _ := h8
        obtain rfl : v9 = _ := h9
        clear h0 h1 h2 h3 h4 h5 h6 h7
        have hC9 := HBZ.out.1.ext hb9
        have hF9 := HBZ.out.2.1.ext HBZ.out.1 hb9
        have hbw9 := ext_trans HBZ.out.2.2 hb9
        have HR := Lib.hid (res2s (.string on) (.string od) hC9 hbw9 (by omega))
        obtain ⟨hbF, z0, z1⟩ := id HR.out
        have r0 : w9.cell? ⟨w.heap.size + 2, 0, none⟩ = some (.string ⟨#[]⟩) := hC9.2 0
        have r1 : w9.cell? ⟨w.heap.size + 2, 1, none⟩ = some (.string ⟨#[]⟩) := hC9.2 1
        have g0 := hF9 0
        have g1 := hF9 1
        clear hbF s0 s1 hC9 hF9 hbw9 hb9
        show wpList _ _ _ _ _ _
        simp only [Act.put, List.setIfInBounds_toArray, List.set_cons_succ, List.set_cons_zero]
        go_wp2
        exact bodyPost_ret (v := .tuple #[.agg #[.string on, .string od], .int .i64 of]) (by simp [results, Tryz.results79, go_sem, z0, z1]) rfl ⟨rfl, HR.out.1⟩
      · have HLE : Hid (L ≤ R) := Lib.hid (by omega)
        have hge : decide (cmpN L R ≥ 0) = false := HGE.out.trans (decide_eq_false hle)
        have HE := Lib.hid (HEB.out (by omega))
        clear HEA HEB hle HGE
        go_upto_region 11 with (fail)
        refine Grow.wp_region_grow 10 [TP.eq (.pointer (some ⟨g', 0, none⟩)), TP.eq (.bool b2), TP.eq (.slice mr (digs R).length cr), TP.eq (.slice ml (digs L).length cl), TP.nat (R - L), TP.eq (.slice md (digs D).length cd), TP.frac b2 (R - L) D, TP.eq (.tuple #[.agg #[.string on, .string od], .int .i64 of]), TP.eq (.agg #[.string on, .string od]), TP.eq (.int .i64 of)] [[], [0], [], [], [2, 3], [], [1, 4, 5], [6], [7], [7]] (by kernel_rfl) (by kernel_rfl) ⟨?g0, ?g1, ?g2, ?g3, ?g4, ?g5, ?g6, ?g7, ?g8, ?g9, trivial⟩ ?_
        case g0 =>
          intro w' hb
          show wpList _ _ _ _ _ _
          go_wp2
          exact ⟨rfl, Below.refl _ _, rfl⟩
        case g1 =>
          intro w' hb v1 hv1
          obtain rfl : v1 = _ := hv1
          have ca : w'.cell? ⟨g', 0, none⟩ = some (.bool b2) := (hb.cell (World.block_lt_of_cell? _ _ s1)).trans s1
          show wpList _ _ _ _ _ _
          simp only [Grow.dstOf, List.getElem?_toArray, List.getElem?_cons_zero, Option.bind_some, Act.put, List.setIfInBounds_toArray, List.set_cons_succ, List.set_cons_zero]
          go_wp2
          exact ⟨rfl, Below.refl _ _, rfl⟩
        case g2 =>
          intro w' hb
          show wpList _ _ _ _ _ _
          go_wp2
          exact ⟨rfl, Below.refl _ _, rfl⟩
        case g3 =>
          intro w' hb
          show wpList _ _ _ _ _ _
          go_wp2
          exact ⟨rfl, Below.refl _ _, rfl⟩
        case g4 =>
          intro w' hb v1 hv1 v2 hv2
          obtain rfl : v1 = _ := hv1
          obtain rfl : v2 = _ := hv2
          show wpList _ _ _ _ _ _
          simp only [Grow.dstOf, List.getElem?_toArray, List.getElem?_cons_succ, List.getElem?_cons_zero, Option.bind_some, Act.put, List.setIfInBounds_toArray, List.set_cons_succ, List.set_cons_zero]
          go_wp2_with fail
          refine (minus_at R L _ _ w' (HLR.out.2.1.ext hb) (HLR.out.1.ext hb) HLE.out (by omega)).mono ?_
          rintro e wz ⟨vz, rfl, hxz, hbz⟩
          have HXZ := Lib.hid hxz
          clear hxz
          go_wp2
          exact ⟨HXZ.out, hbz, rfl⟩
        case g5 =>
          intro w' hb
          show wpList _ _ _ _ _ _
          go_wp2
          exact ⟨rfl, Below.refl _ _, rfl⟩
        case g6 =>
          intro w' hb v1 hv1 v2 hv2 v3 hv3
          obtain rfl : v1 = _ := hv1
          obtain rfl : v3 = _ := hv3
          have hk1 : N w' v2 (R - L) := hv2
          obtain ⟨m5, c5, rfl, _⟩ := hk1.open_
          have HK1 := Lib.hid hk1
          have HK2 := Lib.hid (HLR.out.2.2.ext hb)
          clear hv2 hk1
          show wpList _ _ _ _ _ _
          simp only [Grow.dstOf, List.getElem?_toArray, List.getElem?_cons_succ, List.getElem?_cons_zero, Option.bind_some, Act.put, List.setIfInBounds_toArray, List.set_cons_succ, List.set_cons_zero]
          go_wp2
          exact ⟨⟨_, _, rfl, HK1.out, HK2.out⟩, Below.refl _ _, rfl⟩
        case g7 =>
          intro w' hb v1 hv1
          have hk : ∃ u1 u2, v1 = .agg #[.bool b2, u1, u2] ∧ N w' u1 (R - L) ∧ N w' u2 D := hv1
          clear hv1
          obtain ⟨w1', w2', rfl, hk1, hk2⟩ := hk
          have HK1 := Lib.hid hk1
          have HK2 := Lib.hid hk2
          clear hk1 hk2
          show wpList _ _ _ _ _ _
          simp only [Grow.dstOf, List.getElem?_toArray, List.getElem?_cons_succ, List.getElem?_cons_zero, Option.bind_some, Act.put, List.setIfInBounds_toArray, List.set_cons_succ, List.set_cons_zero]
          go_wp2_with fail
          refine (HE.out _ _ w' HK1.out HK2.out (HTZ.out.ext hb)).mono ?_
          rintro e wz ⟨rfl, hbz⟩
          go_wp2
          exact ⟨rfl, hbz, rfl⟩
        case g8 =>
          intro w' hb v1 hv1
          obtain rfl : v1 = _ := hv1
          show wpList _ _ _ _ _ _
          simp only [Grow.dstOf, List.getElem?_toArray, List.getElem?_cons_succ, List.getElem?_cons_zero, Option.bind_some, Act.put, List.setIfInBounds_toArray, List.set_cons_succ, List.set_cons_zero]
          go_wp2
          exact ⟨rfl, Below.refl _ _, rfl⟩
        case g9 =>
          intro w' hb v1 hv1
          obtain rfl : v1 = _ := hv1
          show wpList _ _ _ _ _ _
          simp only [Grow.dstOf, List.getElem?_toArray, List.getElem?_cons_succ, List.getElem?_cons_zero, Option.bind_some, Act.put, List.setIfInBounds_toArray, List.set_cons_succ, List.set_cons_zero]
          go_wp2
          exact ⟨rfl, Below.refl _ _, rfl⟩
        intro w9 hb9 v0 h0 v1 h1 v2 h2 v3 h3 v4 h4 v5 h5 v6 h6 v7 h7 v8 h8 v9 h9
        obtain rfl : v8 = _ := h8
        obtain rfl : v9 = _ := h9
        clear h0 h1 h2 h3 h4 h5 h6 h7
        have hC9 := HBZ.out.1.ext hb9
        have hF9 := HBZ.out.2.1.ext HBZ.out.1 hb9
        have hbw9 := ext_trans HBZ.out.2.2 hb9
        have HR := Lib.hid (res2s (.string on) (.string od) hC9 hbw9 (by omega))
        obtain ⟨hbF, z0, z1⟩ := id HR.out
        have r0 : w9.cell? ⟨w.heap.size + 2, 0, none⟩ = some (.string ⟨#[]⟩) := hC9.2 0
        have r1 : w9.cell? ⟨w.heap.size + 2, 1, none⟩ = some (.string ⟨#[]⟩) := hC9.2 1
        have g0 := hF9 0
        have g1 := hF9 1
        clear hbF s0 s1 hC9 hF9 hbw9 hb9
        show wpList _ _ _ _ _ _
        simp only [Act.put, List.setIfInBounds_toArray, List.set_cons_succ, List.set_cons_zero]
        go_wp2
        exact bodyPost_ret (v := .tuple #[.agg #[.string on, .string od], .int .i64 of]) (by simp [results, Tryz.results79, go_sem, z0, z1]) rfl ⟨rfl, HR.out.1⟩
  · have hne : (bF n1 d1 n2 d2 != 0) = true := by simp [hz]
    have HN2 : Hid (on = ⟨#[]⟩) := by have := HN.out; rw [if_neg hz] at this; exact this
    have HD2 : Hid (od = ⟨#[]⟩) := by have := HDn.out; rw [if_neg hz] at this; exact this
    have HF3 : Hid (of = bF n1 d1 n2 d2) := by have := HFn.out; rw [if_neg hz] at this; exact this
    clear hz HN HDn HFn
    have HR := Lib.hid (res2s (.string ⟨#[]⟩) (.string ⟨#[]⟩) HB.out.1 HB.out.2.2 (by omega))
    obtain ⟨hbF, z0, z1⟩ := id HR.out
    have r0 : w1.cell? ⟨w.heap.size + 2, 0, none⟩ = some (.string ⟨#[]⟩) := HB.out.1.2 0
    have r1 : w1.cell? ⟨w.heap.size + 2, 1, none⟩ = some (.string ⟨#[]⟩) := HB.out.1.2 1
    have g0 := HB.out.2.1 0
    have g1 := HB.out.2.1 1
    clear hbF
    go_wp2
    exact bodyPost_ret (v := .tuple #[.agg #[.string ⟨#[]⟩, .string ⟨#[]⟩], .int .i64 (bF n1 d1 n2 d2)]) (by simp [results, Tryz.results79, go_sem, z0, z1]) rfl ⟨by rw [HN2.out, HD2.out, HF3.out], HR.out.1⟩
end Nt
end Go.Proofs.YtemenlcigengeaaGreatDoor
