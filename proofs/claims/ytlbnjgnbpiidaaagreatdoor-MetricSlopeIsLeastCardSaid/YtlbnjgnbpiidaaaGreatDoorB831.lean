/- possible of package metric. Printed by gen_mom.py. -/
import Derived.Test.YtlbnjgnbpiidaaaGreatDoorB830
import Derived.Test.YtlbnjgnbpiidaaaGreatDoorB827
namespace Go.Proofs.YtlbnjgnbpiidaaaGreatDoor
open Go.RowKit
namespace Nm
open _root_.Go.Proofs.YtlbnjgnbpiidaaaGreatDoor.Nt (RH RH.cell RH.box RH.row RH.lt RH.new RH.ext RH.fre RH.set RH.other RH.row_other store_cells)
set_option maxRecDepth 100000 in
set_option maxHeartbeats 16000000 in
theorem possible_at (n : Int) (h0 : 0 ≤ n) (h1 : n ≤ 20000) (t : Y5) (q : Q5) (w : World) (hx : SX w t q) (hq : QL q) : Calls Tryz.prog 77 #[.agg (smA n t)] w (BPost w (posB n q)) := by
 have HX0 := Lib.hid hx
 have HQL := Lib.hid hq
 have HNB := Lib.hid (And.intro h0 h1)
 clear hx hq h0 h1
 go_enter Tryz.func77, Tryz.ntmps77
 go_upto_region 1 with (fail)
 refine wp_rows1 fun w1' hbz hR0 => ?_
 have HR_s : Hid (RH w1' w.heap.size (smA (n) t) 59) := Lib.hid hR0
 have HW := Lib.hid hbz
 clear hbz hR0
 have HX : Hid (SX w1' t q) := Lib.hid (HX0.out.ext HW.out)
 clear HX0
 obtain ⟨c_s_0, c_s_1, c_s_2, c_s_3, c_s_4, c_s_5, c_s_6, c_s_7, c_s_8, c_s_9, c_s_10, c_s_11, c_s_12, c_s_13, c_s_14, c_s_15⟩ := zs16 HR_s.out
 by_cases hn : n = 0
 ·have HN0 := Lib.hid hn
  have hnb : (n == 0) = true := beq_iff_eq.2 hn
  clear hn
  obtain ⟨b0, hb0⟩ : ∃ b, decide (q.x.num = 0) = b := ⟨_, rfl⟩
  obtain ⟨b1, hb1⟩ : ∃ b, decide (q.y.num = 0) = b := ⟨_, rfl⟩
  obtain ⟨b2, hb2⟩ : ∃ b, decide (q.xx.num = 0) = b := ⟨_, rfl⟩
  obtain ⟨b3, hb3⟩ : ∃ b, decide (q.yy.num = 0) = b := ⟨_, rfl⟩
  obtain ⟨b4, hb4⟩ : ∃ b, decide (q.xy.num = 0) = b := ⟨_, rfl⟩
  have HZ := Lib.hid (And.intro hb0 (And.intro hb1 (And.intro hb2 (And.intro hb3 hb4))))
  clear hb0 hb1 hb2 hb3 hb4
  have HP : Hid (posB n q = (b0 && (b1 && (b2 && (b3 && b4))))) := Lib.hid (by
   rw [HN0.out]
   obtain ⟨e0, e1, e2, e3, e4⟩ := HZ.out
   rw [← e0, ← e1, ← e2, ← e3, ← e4]
   show zerB q = _
   unfold zerB
   simp only [Rat.num_eq_zero])
  go_wp2_with fail
  refine (zero_is q.x b0 HZ.out.1 _ w1' HX.out.x).mono ?_
  rintro e w2' ⟨rfl, hbz⟩
  replace HR_s := Lib.hid (HR_s.out.ext hbz)
  replace HX := Lib.hid (HX.out.ext hbz)
  replace HW := Lib.hid (ext_trans HW.out hbz)
  clear c_s_0 c_s_1 c_s_2 c_s_3 c_s_4 c_s_5 c_s_6 c_s_7 c_s_8 c_s_9 c_s_10 c_s_11 c_s_12 c_s_13 c_s_14 c_s_15
  clear hbz
  cases b0 with
  | false =>
   go_wp2
   exact bodyPost_ret (v := .bool false) (by simp [results, Tryz.results77, go_sem]) rfl ⟨by rw [HP.out]; simp, HW.out⟩
  | true =>
   obtain ⟨c_s_0, c_s_1, c_s_2, c_s_3, c_s_4, c_s_5, c_s_6, c_s_7, c_s_8, c_s_9, c_s_10, c_s_11, c_s_12, c_s_13, c_s_14, c_s_15⟩ := zs16 HR_s.out
   go_wp2_with fail
   refine (zero_is q.y b1 HZ.out.2.1 _ w2' HX.out.y).mono ?_
   rintro e w3' ⟨rfl, hbz⟩
   replace HR_s := Lib.hid (HR_s.out.ext hbz)
   replace HX := Lib.hid (HX.out.ext hbz)
   replace HW := Lib.hid (ext_trans HW.out hbz)
   clear c_s_0 c_s_1 c_s_2 c_s_3 c_s_4 c_s_5 c_s_6 c_s_7 c_s_8 c_s_9 c_s_10 c_s_11 c_s_12 c_s_13 c_s_14 c_s_15
   clear hbz
   cases b1 with
   | false =>
    go_wp2
    exact bodyPost_ret (v := .bool false) (by simp [results, Tryz.results77, go_sem]) rfl ⟨by rw [HP.out]; simp, HW.out⟩
   | true =>
    obtain ⟨c_s_0, c_s_1, c_s_2, c_s_3, c_s_4, c_s_5, c_s_6, c_s_7, c_s_8, c_s_9, c_s_10, c_s_11, c_s_12, c_s_13, c_s_14, c_s_15⟩ := zs16 HR_s.out
    go_wp2_with fail
    refine (zero_is q.xx b2 HZ.out.2.2.1 _ w3' HX.out.xx).mono ?_
    rintro e w4' ⟨rfl, hbz⟩
    replace HR_s := Lib.hid (HR_s.out.ext hbz)
    replace HX := Lib.hid (HX.out.ext hbz)
    replace HW := Lib.hid (ext_trans HW.out hbz)
    clear c_s_0 c_s_1 c_s_2 c_s_3 c_s_4 c_s_5 c_s_6 c_s_7 c_s_8 c_s_9 c_s_10 c_s_11 c_s_12 c_s_13 c_s_14 c_s_15
    clear hbz
    cases b2 with
    | false =>
     go_wp2
     exact bodyPost_ret (v := .bool false) (by simp [results, Tryz.results77, go_sem]) rfl ⟨by rw [HP.out]; simp, HW.out⟩
    | true =>
     obtain ⟨c_s_0, c_s_1, c_s_2, c_s_3, c_s_4, c_s_5, c_s_6, c_s_7, c_s_8, c_s_9, c_s_10, c_s_11, c_s_12, c_s_13, c_s_14, c_s_15⟩ := zs16 HR_s.out
     go_wp2_with fail
     refine (zero_is q.yy b3 HZ.out.2.2.2.1 _ w4' HX.out.yy).mono ?_
     rintro e w5' ⟨rfl, hbz⟩
     replace HR_s := Lib.hid (HR_s.out.ext hbz)
     replace HX := Lib.hid (HX.out.ext hbz)
     replace HW := Lib.hid (ext_trans HW.out hbz)
     clear c_s_0 c_s_1 c_s_2 c_s_3 c_s_4 c_s_5 c_s_6 c_s_7 c_s_8 c_s_9 c_s_10 c_s_11 c_s_12 c_s_13 c_s_14 c_s_15
     clear hbz
     cases b3 with
     | false =>
      go_wp2
      exact bodyPost_ret (v := .bool false) (by simp [results, Tryz.results77, go_sem]) rfl ⟨by rw [HP.out]; simp, HW.out⟩
     | true =>
      obtain ⟨c_s_0, c_s_1, c_s_2, c_s_3, c_s_4, c_s_5, c_s_6, c_s_7, c_s_8, c_s_9, c_s_10, c_s_11, c_s_12, c_s_13, c_s_14, c_s_15⟩ := zs16 HR_s.out
      go_wp2_with fail
      refine (zero_is q.xy b4 HZ.out.2.2.2.2 _ w5' HX.out.xy).mono ?_
      rintro e w6' ⟨rfl, hbz⟩
      replace HR_s := Lib.hid (HR_s.out.ext hbz)
      replace HX := Lib.hid (HX.out.ext hbz)
      replace HW := Lib.hid (ext_trans HW.out hbz)
      clear c_s_0 c_s_1 c_s_2 c_s_3 c_s_4 c_s_5 c_s_6 c_s_7 c_s_8 c_s_9 c_s_10 c_s_11 c_s_12 c_s_13 c_s_14 c_s_15
      clear hbz
      cases b4 with
      | false =>
       go_wp2
       exact bodyPost_ret (v := .bool false) (by simp [results, Tryz.results77, go_sem]) rfl ⟨by rw [HP.out]; simp, HW.out⟩
      | true =>
       go_wp2
       exact bodyPost_ret (v := .bool true) (by simp [results, Tryz.results77, go_sem]) rfl ⟨by rw [HP.out]; rfl, HW.out⟩
 ·obtain ⟨g1, g2⟩ := id HNB.out
  have hnb : (n == 0) = false := beq_eq_false_iff_ne.2 hn
  have HDA := Lib.hid (df_ln g1 g2 HQL.out.xx HQL.out.x HQL.out.x)
  have HDB := Lib.hid (df_ln g1 g2 HQL.out.yy HQL.out.y HQL.out.y)
  have HDC := Lib.hid (df_ln g1 g2 HQL.out.xy HQL.out.x HQL.out.y)
  obtain ⟨nq, hnq⟩ : ∃ z : Rat, ((n : Int) : Rat) = z := ⟨_, rfl⟩
  have HNL : Hid (Ln 5 0 nq) := Lib.hid (by rw [← hnq]; exact ln_n g1 g2)
  obtain ⟨lA, hlA⟩ : ∃ z : Rat, nq * q.xx = z := ⟨_, rfl⟩
  obtain ⟨rA, hrA⟩ : ∃ z : Rat, q.x * q.x = z := ⟨_, rfl⟩
  obtain ⟨dA, hdA⟩ : ∃ z : Rat, lA - rA = z := ⟨_, rfl⟩
  have HDA' : Hid (Sm lA ∧ Sm rA ∧ Sm dA ∧ Ln 201 0 dA) := Lib.hid (by
   obtain ⟨e1, e2, e3⟩ := HDA.out
   rw [hnq, hlA] at e1
   rw [hrA] at e2
   rw [hnq, hlA, hrA, hdA] at e3
   exact ⟨e1.sm (by omega) (by omega), e2.sm (by omega) (by omega), e3.sm (by omega) (by omega), e3⟩)
  have HEA := Lib.hid (And.intro hlA (And.intro hrA hdA))
  obtain ⟨lB, hlB⟩ : ∃ z : Rat, nq * q.yy = z := ⟨_, rfl⟩
  obtain ⟨rB, hrB⟩ : ∃ z : Rat, q.y * q.y = z := ⟨_, rfl⟩
  obtain ⟨dB, hdB⟩ : ∃ z : Rat, lB - rB = z := ⟨_, rfl⟩
  have HDB' : Hid (Sm lB ∧ Sm rB ∧ Sm dB ∧ Ln 201 0 dB) := Lib.hid (by
   obtain ⟨e1, e2, e3⟩ := HDB.out
   rw [hnq, hlB] at e1
   rw [hrB] at e2
   rw [hnq, hlB, hrB, hdB] at e3
   exact ⟨e1.sm (by omega) (by omega), e2.sm (by omega) (by omega), e3.sm (by omega) (by omega), e3⟩)
  have HEB := Lib.hid (And.intro hlB (And.intro hrB hdB))
  obtain ⟨lC, hlC⟩ : ∃ z : Rat, nq * q.xy = z := ⟨_, rfl⟩
  obtain ⟨rC, hrC⟩ : ∃ z : Rat, q.x * q.y = z := ⟨_, rfl⟩
  obtain ⟨dC, hdC⟩ : ∃ z : Rat, lC - rC = z := ⟨_, rfl⟩
  have HDC' : Hid (Sm lC ∧ Sm rC ∧ Sm dC ∧ Ln 201 0 dC) := Lib.hid (by
   obtain ⟨e1, e2, e3⟩ := HDC.out
   rw [hnq, hlC] at e1
   rw [hrC] at e2
   rw [hnq, hlC, hrC, hdC] at e3
   exact ⟨e1.sm (by omega) (by omega), e2.sm (by omega) (by omega), e3.sm (by omega) (by omega), e3⟩)
  have HEC := Lib.hid (And.intro hlC (And.intro hrC hdC))
  have HDD : Hid (dfA n q = dA ∧ dfB n q = dB ∧ dfC n q = dC) := Lib.hid (by unfold dfA dfB dfC; rw [hnq, hlA, hrA, hdA, hlB, hrB, hdB, hlC, hrC, hdC]; exact ⟨rfl, rfl, rfl⟩)
  have HNQ := Lib.hid hnq
  clear HDA HDB HDC hnq hlA hrA hdA hlB hrB hdB hlC hrC hdC hn
  obtain ⟨cc, hcc⟩ : ∃ z : Rat, dC * dC = z := ⟨_, rfl⟩
  obtain ⟨ab, hab⟩ : ∃ z : Rat, dA * dB = z := ⟨_, rfl⟩
  have HCC : Hid (dC * dC = cc ∧ dA * dB = ab ∧ Sm cc ∧ Sm ab) := Lib.hid ⟨hcc, hab, by rw [← hcc]; exact (HDC'.out.2.2.2.mul HDC'.out.2.2.2).sm (by omega) (by omega), by rw [← hab]; exact (HDA'.out.2.2.2.mul HDB'.out.2.2.2).sm (by omega) (by omega)⟩
  clear hcc hab
  have HP0 : Hid (posB n q = (decide (0 ≤ q.xx) && (decide (0 ≤ q.yy) && (decide (0 ≤ dA) && (decide (0 ≤ dB) && decide (cc ≤ ab)))))) := Lib.hid (by
   unfold posB posB1
   rw [if_neg (by simpa using hnb), HDD.out.1, HDD.out.2.1, HDD.out.2.2, HCC.out.1, HCC.out.2.1])
  clear HDD
  go_wp2_with fail
  refine (mwhole_is n nq HNQ.out (by omega) (by omega) w1').mono ?_
  rintro e w2' ⟨v1, rfl, hv1, hbz⟩
  obtain ⟨tn, rfl, hx1⟩ := hv1.y3
  clear hv1
  replace HR_s := Lib.hid (HR_s.out.ext hbz)
  replace HX := Lib.hid (HX.out.ext hbz)
  replace HW := Lib.hid (ext_trans HW.out hbz)
  clear c_s_0 c_s_1 c_s_2 c_s_3 c_s_4 c_s_5 c_s_6 c_s_7 c_s_8 c_s_9 c_s_10 c_s_11 c_s_12 c_s_13 c_s_14 c_s_15
  clear hbz
  have HXn : Hid (XR w2' (y3V tn) nq) := Lib.hid hx1
  clear hx1
  go_upto_region 4 with (fail)
  refine wp_rows1 fun w3' hbz hR0 => ?_
  have lt_s_n : w.heap.size < w2'.heap.size := HR_s.out.lt
  have le_n : w.heap.size ≤ w2'.heap.size := HW.out.size
  replace HR_s := Lib.hid (HR_s.out.ext hbz)
  replace HX := Lib.hid (HX.out.ext hbz)
  replace HXn := Lib.hid (HXn.out.ext hbz)
  replace HW := Lib.hid (ext_trans HW.out hbz)
  clear hbz
  have HR_n : Hid (RH w3' w2'.heap.size #[.bool tn.b, .slice tn.a1 tn.n1 tn.c1, .slice tn.a2 tn.n2 tn.c2] 52) := Lib.hid hR0
  clear hR0
  generalize w2'.heap.size = b_n at *
  obtain ⟨c_s_0, c_s_1, c_s_2, c_s_3, c_s_4, c_s_5, c_s_6, c_s_7, c_s_8, c_s_9, c_s_10, c_s_11, c_s_12, c_s_13, c_s_14, c_s_15⟩ := zs16 HR_s.out
  obtain ⟨c_n_0, c_n_1, c_n_2⟩ := zs3 HR_n.out
  refine Grow.wp_region_grow 11 [TP.eq (.agg #[.bool tn.b, .slice tn.a1 tn.n1 tn.c1, .slice tn.a2 tn.n2 tn.c2]), TP.eq (.pointer (some ⟨w.heap.size, 7, none⟩)), TP.eq (.agg #[.bool t.xx.b, .slice t.xx.a1 t.xx.n1 t.xx.c1, .slice t.xx.a2 t.xx.n2 t.xx.c2]), TP.xq lA, TP.eq (.pointer (some ⟨w.heap.size, 1, none⟩)), TP.eq (.agg #[.bool t.x.b, .slice t.x.a1 t.x.n1 t.x.c1, .slice t.x.a2 t.x.n2 t.x.c2]), TP.eq (.pointer (some ⟨w.heap.size, 1, none⟩)), TP.eq (.agg #[.bool t.x.b, .slice t.x.a1 t.x.n1 t.x.c1, .slice t.x.a2 t.x.n2 t.x.c2]), TP.xq rA, TP.xq dA, TP.row w3'.heap.size zeroX 52] [[], [], [1], [0, 2], [], [4], [], [6], [5, 7], [3, 8], []] (by kernel_rfl) (by kernel_rfl) ⟨?o0pa, ?o1pa, ?o2pa, ?o3pa, ?o4pa, ?o5pa, ?o6pa, ?o7pa, ?o8pa, ?o9pa, ?o10pa, trivial⟩ ?_
  case o0pa =>
   intro w' hb
   have c_n_0' := zzc hb c_n_0
   have c_n_1' := zzc hb c_n_1
   have c_n_2' := zzc hb c_n_2
   show wpList _ _ _ _ _ _
   go_wp2
   exact ⟨rfl, Below.refl _ _, rfl⟩
  case o1pa | o4pa | o6pa =>
   intro w' hb
   show wpList _ _ _ _ _ _
   go_wp2
   exact ⟨rfl, Below.refl _ _, rfl⟩
  case o2pa | o5pa | o7pa =>
   intro w' hb v1 hv1
   cases hv1
   have c_s_7' := zzc hb c_s_7
   have c_s_8' := zzc hb c_s_8
   have c_s_9' := zzc hb c_s_9
   have c_s_1' := zzc hb c_s_1
   have c_s_2' := zzc hb c_s_2
   have c_s_3' := zzc hb c_s_3
   show wpList _ _ _ _ _ _
   simp only [Grow.dstOf, zzp, Act.put]
   go_wp2
   exact ⟨rfl, Below.refl _ _, rfl⟩
  case o3pa =>
   intro w' hb v1 hv1 v2 hv2
   cases hv1
   cases hv2
   show wpList _ _ _ _ _ _
   simp only [Grow.dstOf, zzp, Act.put]
   go_wp2_with fail
   refine (xtimes_sm nq q.xx lA HEA.out.1 _ _ w' (HXn.out.ext hb) (HX.out.xx.ext hb) (HNL.out.sm (by omega) (by omega)) HQL.out.qs.xx).mono ?_
   rintro e wz ⟨vz, rfl, hxz, hbz⟩
   go_wp2
   exact ⟨hxz, hbz, rfl⟩
  case o8pa =>
   intro w' hb v1 hv1 v2 hv2
   cases hv1
   cases hv2
   show wpList _ _ _ _ _ _
   simp only [Grow.dstOf, zzp, Act.put]
   go_wp2_with fail
   refine (xtimes_sm q.x q.x rA HEA.out.2.1 _ _ w' (HX.out.x.ext hb) (HX.out.x.ext hb) HQL.out.qs.x HQL.out.qs.x).mono ?_
   rintro e wz ⟨vz, rfl, hxz, hbz⟩
   go_wp2
   exact ⟨hxz, hbz, rfl⟩
  case o9pa =>
   intro w' hb v1 hv1 v2 hv2
   have hv1' : XR w' v1 lA := hv1
   have hv2' : XR w' v2 rA := hv2
   clear hv1 hv2
   show wpList _ _ _ _ _ _
   simp only [Grow.dstOf, zzp, Act.put]
   go_wp2_with fail
   refine (mminus_is lA rA dA HEA.out.2.2 _ _ w' hv1' hv2' HDA'.out.1 HDA'.out.2.1).mono ?_
   rintro e wz ⟨vz, rfl, hxz, hbz⟩
   go_wp2
   exact ⟨hxz, hbz, rfl⟩
  case o10pa =>
   intro w' hb
   show wpList _ _ _ _ _ _
   go_wp2
   exact ⟨⟨_, rfl, hb.size, RH.new _ _ _⟩, ext_alloc _ _, rfl⟩
  intro w4' hbz u0 hu0 u1 hu1 u2 hu2 u3 hu3 u4 hu4 u5 hu5 u6 hu6 u7 hu7 u8 hu8 u9 hu9 u10 hu10
  have hv9 : XR w4' u9 dA := hu9
  have hg9 : ∃ g, u10 = .pointer (some ⟨g, 0, none⟩) ∧ w3'.heap.size ≤ g ∧ RH w4' g zeroX 52 := hu10
  clear hu0 hu1 hu2 hu3 hu4 hu5 hu6 hu7 hu8 hu9 hu10
  obtain ⟨b_a, rfl, hgY, hRg⟩ := hg9
  have lt_s_a : w.heap.size < b_a := Nat.lt_of_lt_of_le HR_s.out.lt hgY
  have lt_n_a : b_n < b_a := Nat.lt_of_lt_of_le HR_n.out.lt hgY
  have le_a : w.heap.size ≤ b_a := Nat.le_trans HW.out.size hgY
  clear hgY
  replace HR_s := Lib.hid (HR_s.out.ext hbz)
  replace HR_n := Lib.hid (HR_n.out.ext hbz)
  replace HX := Lib.hid (HX.out.ext hbz)
  replace HXn := Lib.hid (HXn.out.ext hbz)
  replace HW := Lib.hid (ext_trans HW.out hbz)
  clear c_s_0 c_s_1 c_s_2 c_s_3 c_s_4 c_s_5 c_s_6 c_s_7 c_s_8 c_s_9 c_s_10 c_s_11 c_s_12 c_s_13 c_s_14 c_s_15 c_n_0 c_n_1 c_n_2
  clear hbz
  obtain ⟨ta, rfl, hx9⟩ := hv9.y3
  clear hv9
  have HXa : Hid (XR w4' (y3V ta) dA) := Lib.hid (hx9)
  clear hx9
  have HR_a : Hid (RH w4' b_a #[.bool false, .slice none 0 0, .slice none 0 0] 52) := Lib.hid hRg
  clear hRg
  show wpList _ _ _ _ _ _
  simp only [Act.put, zzp]
  obtain ⟨c_a_0, c_a_1, c_a_2⟩ := zs3 HR_a.out
  have f_a_0 := HR_a.out.fre 0
  have f_a_1 := HR_a.out.fre 1
  have f_a_2 := HR_a.out.fre 2
  go_upto_region 5 with (fail)
  obtain ⟨w5', hX⟩ : ∃ Z9, Z9 = (((w4'.setCell ⟨b_a, 0, none⟩ (.bool ta.b)).setCell ⟨b_a, 1, none⟩ (.slice ta.a1 ta.n1 ta.c1)).setCell ⟨b_a, 2, none⟩ (.slice ta.a2 ta.n2 ta.c2)) := ⟨_, rfl⟩
  rw [← hX]
  have n_a : Hid (RH w5' b_a #[.bool ta.b, .slice ta.a1 ta.n1 ta.c1, .slice ta.a2 ta.n2 ta.c2] 52) := by rw [hX]; exact Lib.hid ((((HR_a.out).set 0 (.bool ta.b)).set 1 (.slice ta.a1 ta.n1 ta.c1)).set 2 (.slice ta.a2 ta.n2 ta.c2))
  have n_s : Hid (RH w5' w.heap.size (smA (n) t) 59) := by rw [hX]; exact Lib.hid (zzo (zzo (zzo (HR_s.out) (by omega)) (by omega)) (by omega))
  have n_n : Hid (RH w5' b_n #[.bool tn.b, .slice tn.a1 tn.n1 tn.c1, .slice tn.a2 tn.n2 tn.c2] 52) := by rw [hX]; exact Lib.hid (zzo (zzo (zzo (HR_n.out) (by omega)) (by omega)) (by omega))
  have HK_ : ∀ p : Addr, p.block ≠ b_a → w5'.cell? p = w4'.cell? p := fun p hp => by rw [hX]; exact (cs_other hp).trans ((cs_other hp).trans (cs_other hp))
  have n_HX : Hid (SX w5' t q) := Lib.hid (HX.out.far HR_a.out.box (noW_all (by simp [isWord])) HK_)
  have n_HXn : Hid (XR w5' (y3V tn) nq) := Lib.hid (HXn.out.far HR_a.out.box (noW_all (by simp [isWord])) HK_)
  have n_HXa : Hid (XR w5' (y3V ta) dA) := Lib.hid (HXa.out.far HR_a.out.box (noW_all (by simp [isWord])) HK_)
  have nW : Hid (Below w.heap.size w w5') := by rw [hX]; exact Lib.hid (zzw (zzw (zzw (HW.out) (by omega)) (by omega)) (by omega))
  clear c_a_0 c_a_1 c_a_2 f_a_0 f_a_1 f_a_2
  clear hX HK_ HW HR_s HR_n HR_a HX HXn HXa
  have HR_s := n_s; clear n_s
  have HR_n := n_n; clear n_n
  have HR_a := n_a; clear n_a
  have HX := n_HX; clear n_HX
  have HXn := n_HXn; clear n_HXn
  have HXa := n_HXa; clear n_HXa
  have HW := nW; clear nW
  obtain ⟨c_s_0, c_s_1, c_s_2, c_s_3, c_s_4, c_s_5, c_s_6, c_s_7, c_s_8, c_s_9, c_s_10, c_s_11, c_s_12, c_s_13, c_s_14, c_s_15⟩ := zs16 HR_s.out
  obtain ⟨c_n_0, c_n_1, c_n_2⟩ := zs3 HR_n.out
  refine Grow.wp_region_grow 11 [TP.eq (.agg #[.bool tn.b, .slice tn.a1 tn.n1 tn.c1, .slice tn.a2 tn.n2 tn.c2]), TP.eq (.pointer (some ⟨w.heap.size, 10, none⟩)), TP.eq (.agg #[.bool t.yy.b, .slice t.yy.a1 t.yy.n1 t.yy.c1, .slice t.yy.a2 t.yy.n2 t.yy.c2]), TP.xq lB, TP.eq (.pointer (some ⟨w.heap.size, 4, none⟩)), TP.eq (.agg #[.bool t.y.b, .slice t.y.a1 t.y.n1 t.y.c1, .slice t.y.a2 t.y.n2 t.y.c2]), TP.eq (.pointer (some ⟨w.heap.size, 4, none⟩)), TP.eq (.agg #[.bool t.y.b, .slice t.y.a1 t.y.n1 t.y.c1, .slice t.y.a2 t.y.n2 t.y.c2]), TP.xq rB, TP.xq dB, TP.row w5'.heap.size zeroX 52] [[], [], [1], [0, 2], [], [4], [], [6], [5, 7], [3, 8], []] (by kernel_rfl) (by kernel_rfl) ⟨?o0pb, ?o1pb, ?o2pb, ?o3pb, ?o4pb, ?o5pb, ?o6pb, ?o7pb, ?o8pb, ?o9pb, ?o10pb, trivial⟩ ?_
  case o0pb =>
   intro w' hb
   have c_n_0' := zzc hb c_n_0
   have c_n_1' := zzc hb c_n_1
   have c_n_2' := zzc hb c_n_2
   show wpList _ _ _ _ _ _
   go_wp2
   exact ⟨rfl, Below.refl _ _, rfl⟩
  case o1pb | o4pb | o6pb =>
   intro w' hb
   show wpList _ _ _ _ _ _
   go_wp2
   exact ⟨rfl, Below.refl _ _, rfl⟩
  case o2pb | o5pb | o7pb =>
   intro w' hb v1 hv1
   cases hv1
   have c_s_10' := zzc hb c_s_10
   have c_s_11' := zzc hb c_s_11
   have c_s_12' := zzc hb c_s_12
   have c_s_4' := zzc hb c_s_4
   have c_s_5' := zzc hb c_s_5
   have c_s_6' := zzc hb c_s_6
   show wpList _ _ _ _ _ _
   simp only [Grow.dstOf, zzp, Act.put]
   go_wp2
   exact ⟨rfl, Below.refl _ _, rfl⟩
  case o3pb =>
   intro w' hb v1 hv1 v2 hv2
   cases hv1
   cases hv2
   show wpList _ _ _ _ _ _
   simp only [Grow.dstOf, zzp, Act.put]
   go_wp2_with fail
   refine (xtimes_sm nq q.yy lB HEB.out.1 _ _ w' (HXn.out.ext hb) (HX.out.yy.ext hb) (HNL.out.sm (by omega) (by omega)) HQL.out.qs.yy).mono ?_
   rintro e wz ⟨vz, rfl, hxz, hbz⟩
   go_wp2
   exact ⟨hxz, hbz, rfl⟩
  case o8pb =>
   intro w' hb v1 hv1 v2 hv2
   cases hv1
   cases hv2
   show wpList _ _ _ _ _ _
   simp only [Grow.dstOf, zzp, Act.put]
   go_wp2_with fail
   refine (xtimes_sm q.y q.y rB HEB.out.2.1 _ _ w' (HX.out.y.ext hb) (HX.out.y.ext hb) HQL.out.qs.y HQL.out.qs.y).mono ?_
   rintro e wz ⟨vz, rfl, hxz, hbz⟩
   go_wp2
   exact ⟨hxz, hbz, rfl⟩
  case o9pb =>
   intro w' hb v1 hv1 v2 hv2
   have hv1' : XR w' v1 lB := hv1
   have hv2' : XR w' v2 rB := hv2
   clear hv1 hv2
   show wpList _ _ _ _ _ _
   simp only [Grow.dstOf, zzp, Act.put]
   go_wp2_with fail
   refine (mminus_is lB rB dB HEB.out.2.2 _ _ w' hv1' hv2' HDB'.out.1 HDB'.out.2.1).mono ?_
   rintro e wz ⟨vz, rfl, hxz, hbz⟩
   go_wp2
   exact ⟨hxz, hbz, rfl⟩
  case o10pb =>
   intro w' hb
   show wpList _ _ _ _ _ _
   go_wp2
   exact ⟨⟨_, rfl, hb.size, RH.new _ _ _⟩, ext_alloc _ _, rfl⟩
  intro w6' hbz u0 hu0 u1 hu1 u2 hu2 u3 hu3 u4 hu4 u5 hu5 u6 hu6 u7 hu7 u8 hu8 u9 hu9 u10 hu10
  have hv9 : XR w6' u9 dB := hu9
  have hg9 : ∃ g, u10 = .pointer (some ⟨g, 0, none⟩) ∧ w5'.heap.size ≤ g ∧ RH w6' g zeroX 52 := hu10
  clear hu0 hu1 hu2 hu3 hu4 hu5 hu6 hu7 hu8 hu9 hu10
  obtain ⟨b_b, rfl, hgY, hRg⟩ := hg9
  have lt_s_b : w.heap.size < b_b := Nat.lt_of_lt_of_le HR_s.out.lt hgY
  have lt_n_b : b_n < b_b := Nat.lt_of_lt_of_le HR_n.out.lt hgY
  have lt_a_b : b_a < b_b := Nat.lt_of_lt_of_le HR_a.out.lt hgY
  have le_b : w.heap.size ≤ b_b := Nat.le_trans HW.out.size hgY
  clear hgY
  replace HR_s := Lib.hid (HR_s.out.ext hbz)
  replace HR_n := Lib.hid (HR_n.out.ext hbz)
  replace HR_a := Lib.hid (HR_a.out.ext hbz)
  replace HX := Lib.hid (HX.out.ext hbz)
  replace HXn := Lib.hid (HXn.out.ext hbz)
  replace HXa := Lib.hid (HXa.out.ext hbz)
  replace HW := Lib.hid (ext_trans HW.out hbz)
  clear c_s_0 c_s_1 c_s_2 c_s_3 c_s_4 c_s_5 c_s_6 c_s_7 c_s_8 c_s_9 c_s_10 c_s_11 c_s_12 c_s_13 c_s_14 c_s_15 c_n_0 c_n_1 c_n_2
  clear hbz
  obtain ⟨tb, rfl, hx9⟩ := hv9.y3
  clear hv9
  have HXb : Hid (XR w6' (y3V tb) dB) := Lib.hid (hx9)
  clear hx9
  have HR_b : Hid (RH w6' b_b #[.bool false, .slice none 0 0, .slice none 0 0] 52) := Lib.hid hRg
  clear hRg
  show wpList _ _ _ _ _ _
  simp only [Act.put, zzp]
  obtain ⟨c_b_0, c_b_1, c_b_2⟩ := zs3 HR_b.out
  have f_b_0 := HR_b.out.fre 0
  have f_b_1 := HR_b.out.fre 1
  have f_b_2 := HR_b.out.fre 2
  go_upto_region 6 with (fail)
  obtain ⟨w7', hX⟩ : ∃ Z9, Z9 = (((w6'.setCell ⟨b_b, 0, none⟩ (.bool tb.b)).setCell ⟨b_b, 1, none⟩ (.slice tb.a1 tb.n1 tb.c1)).setCell ⟨b_b, 2, none⟩ (.slice tb.a2 tb.n2 tb.c2)) := ⟨_, rfl⟩
  rw [← hX]
  have n_b : Hid (RH w7' b_b #[.bool tb.b, .slice tb.a1 tb.n1 tb.c1, .slice tb.a2 tb.n2 tb.c2] 52) := by rw [hX]; exact Lib.hid ((((HR_b.out).set 0 (.bool tb.b)).set 1 (.slice tb.a1 tb.n1 tb.c1)).set 2 (.slice tb.a2 tb.n2 tb.c2))
  have n_s : Hid (RH w7' w.heap.size (smA (n) t) 59) := by rw [hX]; exact Lib.hid (zzo (zzo (zzo (HR_s.out) (by omega)) (by omega)) (by omega))
  have n_n : Hid (RH w7' b_n #[.bool tn.b, .slice tn.a1 tn.n1 tn.c1, .slice tn.a2 tn.n2 tn.c2] 52) := by rw [hX]; exact Lib.hid (zzo (zzo (zzo (HR_n.out) (by omega)) (by omega)) (by omega))
  have n_a : Hid (RH w7' b_a #[.bool ta.b, .slice ta.a1 ta.n1 ta.c1, .slice ta.a2 ta.n2 ta.c2] 52) := by rw [hX]; exact Lib.hid (zzo (zzo (zzo (HR_a.out) (by omega)) (by omega)) (by omega))
  have HK_ : ∀ p : Addr, p.block ≠ b_b → w7'.cell? p = w6'.cell? p := fun p hp => by rw [hX]; exact (cs_other hp).trans ((cs_other hp).trans (cs_other hp))
  have n_HX : Hid (SX w7' t q) := Lib.hid (HX.out.far HR_b.out.box (noW_all (by simp [isWord])) HK_)
  have n_HXn : Hid (XR w7' (y3V tn) nq) := Lib.hid (HXn.out.far HR_b.out.box (noW_all (by simp [isWord])) HK_)
  have n_HXa : Hid (XR w7' (y3V ta) dA) := Lib.hid (HXa.out.far HR_b.out.box (noW_all (by simp [isWord])) HK_)
  have n_HXb : Hid (XR w7' (y3V tb) dB) := Lib.hid (HXb.out.far HR_b.out.box (noW_all (by simp [isWord])) HK_)
  have nW : Hid (Below w.heap.size w w7') := by rw [hX]; exact Lib.hid (zzw (zzw (zzw (HW.out) (by omega)) (by omega)) (by omega))
  clear c_b_0 c_b_1 c_b_2 f_b_0 f_b_1 f_b_2
  clear hX HK_ HW HR_s HR_n HR_a HR_b HX HXn HXa HXb
  have HR_s := n_s; clear n_s
  have HR_n := n_n; clear n_n
  have HR_a := n_a; clear n_a
  have HR_b := n_b; clear n_b
  have HX := n_HX; clear n_HX
  have HXn := n_HXn; clear n_HXn
  have HXa := n_HXa; clear n_HXa
  have HXb := n_HXb; clear n_HXb
  have HW := nW; clear nW
  obtain ⟨c_s_0, c_s_1, c_s_2, c_s_3, c_s_4, c_s_5, c_s_6, c_s_7, c_s_8, c_s_9, c_s_10, c_s_11, c_s_12, c_s_13, c_s_14, c_s_15⟩ := zs16 HR_s.out
  obtain ⟨c_n_0, c_n_1, c_n_2⟩ := zs3 HR_n.out
  refine Grow.wp_region_grow 11 [TP.eq (.agg #[.bool tn.b, .slice tn.a1 tn.n1 tn.c1, .slice tn.a2 tn.n2 tn.c2]), TP.eq (.pointer (some ⟨w.heap.size, 13, none⟩)), TP.eq (.agg #[.bool t.xy.b, .slice t.xy.a1 t.xy.n1 t.xy.c1, .slice t.xy.a2 t.xy.n2 t.xy.c2]), TP.xq lC, TP.eq (.pointer (some ⟨w.heap.size, 1, none⟩)), TP.eq (.agg #[.bool t.x.b, .slice t.x.a1 t.x.n1 t.x.c1, .slice t.x.a2 t.x.n2 t.x.c2]), TP.eq (.pointer (some ⟨w.heap.size, 4, none⟩)), TP.eq (.agg #[.bool t.y.b, .slice t.y.a1 t.y.n1 t.y.c1, .slice t.y.a2 t.y.n2 t.y.c2]), TP.xq rC, TP.xq dC, TP.row w7'.heap.size zeroX 52] [[], [], [1], [0, 2], [], [4], [], [6], [5, 7], [3, 8], []] (by kernel_rfl) (by kernel_rfl) ⟨?o0pc, ?o1pc, ?o2pc, ?o3pc, ?o4pc, ?o5pc, ?o6pc, ?o7pc, ?o8pc, ?o9pc, ?o10pc, trivial⟩ ?_
  case o0pc =>
   intro w' hb
   have c_n_0' := zzc hb c_n_0
   have c_n_1' := zzc hb c_n_1
   have c_n_2' := zzc hb c_n_2
   show wpList _ _ _ _ _ _
   go_wp2
   exact ⟨rfl, Below.refl _ _, rfl⟩
  case o1pc | o4pc | o6pc =>
   intro w' hb
   show wpList _ _ _ _ _ _
   go_wp2
   exact ⟨rfl, Below.refl _ _, rfl⟩
  case o2pc | o5pc | o7pc =>
   intro w' hb v1 hv1
   cases hv1
   have c_s_13' := zzc hb c_s_13
   have c_s_14' := zzc hb c_s_14
   have c_s_15' := zzc hb c_s_15
   have c_s_1' := zzc hb c_s_1
   have c_s_2' := zzc hb c_s_2
   have c_s_3' := zzc hb c_s_3
   have c_s_4' := zzc hb c_s_4
   have c_s_5' := zzc hb c_s_5
   have c_s_6' := zzc hb c_s_6
   show wpList _ _ _ _ _ _
   simp only [Grow.dstOf, zzp, Act.put]
   go_wp2
   exact ⟨rfl, Below.refl _ _, rfl⟩
  case o3pc =>
   intro w' hb v1 hv1 v2 hv2
   cases hv1
   cases hv2
   show wpList _ _ _ _ _ _
   simp only [Grow.dstOf, zzp, Act.put]
   go_wp2_with fail
   refine (xtimes_sm nq q.xy lC HEC.out.1 _ _ w' (HXn.out.ext hb) (HX.out.xy.ext hb) (HNL.out.sm (by omega) (by omega)) HQL.out.qs.xy).mono ?_
   rintro e wz ⟨vz, rfl, hxz, hbz⟩
   go_wp2
   exact ⟨hxz, hbz, rfl⟩
  case o8pc =>
   intro w' hb v1 hv1 v2 hv2
   cases hv1
   cases hv2
   show wpList _ _ _ _ _ _
   simp only [Grow.dstOf, zzp, Act.put]
   go_wp2_with fail
   refine (xtimes_sm q.x q.y rC HEC.out.2.1 _ _ w' (HX.out.x.ext hb) (HX.out.y.ext hb) HQL.out.qs.x HQL.out.qs.y).mono ?_
   rintro e wz ⟨vz, rfl, hxz, hbz⟩
   go_wp2
   exact ⟨hxz, hbz, rfl⟩
  case o9pc =>
   intro w' hb v1 hv1 v2 hv2
   have hv1' : XR w' v1 lC := hv1
   have hv2' : XR w' v2 rC := hv2
   clear hv1 hv2
   show wpList _ _ _ _ _ _
   simp only [Grow.dstOf, zzp, Act.put]
   go_wp2_with fail
   refine (mminus_is lC rC dC HEC.out.2.2 _ _ w' hv1' hv2' HDC'.out.1 HDC'.out.2.1).mono ?_
   rintro e wz ⟨vz, rfl, hxz, hbz⟩
   go_wp2
   exact ⟨hxz, hbz, rfl⟩
  case o10pc =>
   intro w' hb
   show wpList _ _ _ _ _ _
   go_wp2
   exact ⟨⟨_, rfl, hb.size, RH.new _ _ _⟩, ext_alloc _ _, rfl⟩
  intro w8' hbz u0 hu0 u1 hu1 u2 hu2 u3 hu3 u4 hu4 u5 hu5 u6 hu6 u7 hu7 u8 hu8 u9 hu9 u10 hu10
  have hv9 : XR w8' u9 dC := hu9
  have hg9 : ∃ g, u10 = .pointer (some ⟨g, 0, none⟩) ∧ w7'.heap.size ≤ g ∧ RH w8' g zeroX 52 := hu10
  clear hu0 hu1 hu2 hu3 hu4 hu5 hu6 hu7 hu8 hu9 hu10
  obtain ⟨b_c, rfl, hgY, hRg⟩ := hg9
  have lt_s_c : w.heap.size < b_c := Nat.lt_of_lt_of_le HR_s.out.lt hgY
  have lt_n_c : b_n < b_c := Nat.lt_of_lt_of_le HR_n.out.lt hgY
  have lt_a_c : b_a < b_c := Nat.lt_of_lt_of_le HR_a.out.lt hgY
  have lt_b_c : b_b < b_c := Nat.lt_of_lt_of_le HR_b.out.lt hgY
  have le_c : w.heap.size ≤ b_c := Nat.le_trans HW.out.size hgY
  clear hgY
  replace HR_s := Lib.hid (HR_s.out.ext hbz)
  replace HR_n := Lib.hid (HR_n.out.ext hbz)
  replace HR_a := Lib.hid (HR_a.out.ext hbz)
  replace HR_b := Lib.hid (HR_b.out.ext hbz)
  replace HX := Lib.hid (HX.out.ext hbz)
  replace HXn := Lib.hid (HXn.out.ext hbz)
  replace HXa := Lib.hid (HXa.out.ext hbz)
  replace HXb := Lib.hid (HXb.out.ext hbz)
  replace HW := Lib.hid (ext_trans HW.out hbz)
  clear c_s_0 c_s_1 c_s_2 c_s_3 c_s_4 c_s_5 c_s_6 c_s_7 c_s_8 c_s_9 c_s_10 c_s_11 c_s_12 c_s_13 c_s_14 c_s_15 c_n_0 c_n_1 c_n_2
  clear hbz
  obtain ⟨tc, rfl, hx9⟩ := hv9.y3
  clear hv9
  have HXc : Hid (XR w8' (y3V tc) dC) := Lib.hid (hx9)
  clear hx9
  have HR_c : Hid (RH w8' b_c #[.bool false, .slice none 0 0, .slice none 0 0] 52) := Lib.hid hRg
  clear hRg
  show wpList _ _ _ _ _ _
  simp only [Act.put, zzp]
  obtain ⟨c_c_0, c_c_1, c_c_2⟩ := zs3 HR_c.out
  have f_c_0 := HR_c.out.fre 0
  have f_c_1 := HR_c.out.fre 1
  have f_c_2 := HR_c.out.fre 2
  go_upto_region 7 with (fail)
  obtain ⟨w9', hX⟩ : ∃ Z9, Z9 = (((w8'.setCell ⟨b_c, 0, none⟩ (.bool tc.b)).setCell ⟨b_c, 1, none⟩ (.slice tc.a1 tc.n1 tc.c1)).setCell ⟨b_c, 2, none⟩ (.slice tc.a2 tc.n2 tc.c2)) := ⟨_, rfl⟩
  rw [← hX]
  have n_c : Hid (RH w9' b_c #[.bool tc.b, .slice tc.a1 tc.n1 tc.c1, .slice tc.a2 tc.n2 tc.c2] 52) := by rw [hX]; exact Lib.hid ((((HR_c.out).set 0 (.bool tc.b)).set 1 (.slice tc.a1 tc.n1 tc.c1)).set 2 (.slice tc.a2 tc.n2 tc.c2))
  have n_s : Hid (RH w9' w.heap.size (smA (n) t) 59) := by rw [hX]; exact Lib.hid (zzo (zzo (zzo (HR_s.out) (by omega)) (by omega)) (by omega))
  have n_n : Hid (RH w9' b_n #[.bool tn.b, .slice tn.a1 tn.n1 tn.c1, .slice tn.a2 tn.n2 tn.c2] 52) := by rw [hX]; exact Lib.hid (zzo (zzo (zzo (HR_n.out) (by omega)) (by omega)) (by omega))
  have n_a : Hid (RH w9' b_a #[.bool ta.b, .slice ta.a1 ta.n1 ta.c1, .slice ta.a2 ta.n2 ta.c2] 52) := by rw [hX]; exact Lib.hid (zzo (zzo (zzo (HR_a.out) (by omega)) (by omega)) (by omega))
  have n_b : Hid (RH w9' b_b #[.bool tb.b, .slice tb.a1 tb.n1 tb.c1, .slice tb.a2 tb.n2 tb.c2] 52) := by rw [hX]; exact Lib.hid (zzo (zzo (zzo (HR_b.out) (by omega)) (by omega)) (by omega))
  have HK_ : ∀ p : Addr, p.block ≠ b_c → w9'.cell? p = w8'.cell? p := fun p hp => by rw [hX]; exact (cs_other hp).trans ((cs_other hp).trans (cs_other hp))
  have n_HX : Hid (SX w9' t q) := Lib.hid (HX.out.far HR_c.out.box (noW_all (by simp [isWord])) HK_)
  have n_HXn : Hid (XR w9' (y3V tn) nq) := Lib.hid (HXn.out.far HR_c.out.box (noW_all (by simp [isWord])) HK_)
  have n_HXa : Hid (XR w9' (y3V ta) dA) := Lib.hid (HXa.out.far HR_c.out.box (noW_all (by simp [isWord])) HK_)
  have n_HXb : Hid (XR w9' (y3V tb) dB) := Lib.hid (HXb.out.far HR_c.out.box (noW_all (by simp [isWord])) HK_)
  have n_HXc : Hid (XR w9' (y3V tc) dC) := Lib.hid (HXc.out.far HR_c.out.box (noW_all (by simp [isWord])) HK_)
  have nW : Hid (Below w.heap.size w w9') := by rw [hX]; exact Lib.hid (zzw (zzw (zzw (HW.out) (by omega)) (by omega)) (by omega))
  clear c_c_0 c_c_1 c_c_2 f_c_0 f_c_1 f_c_2
  clear hX HK_ HW HR_s HR_n HR_a HR_b HR_c HX HXn HXa HXb HXc
  have HR_s := n_s; clear n_s
  have HR_n := n_n; clear n_n
  have HR_a := n_a; clear n_a
  have HR_b := n_b; clear n_b
  have HR_c := n_c; clear n_c
  have HX := n_HX; clear n_HX
  have HXn := n_HXn; clear n_HXn
  have HXa := n_HXa; clear n_HXa
  have HXb := n_HXb; clear n_HXb
  have HXc := n_HXc; clear n_HXc
  have HW := nW; clear nW
  by_cases hc0 : 0 ≤ q.xx
  ·by_cases hc1 : 0 ≤ q.yy
   ·by_cases hc2 : 0 ≤ dA
    ·by_cases hc3 : 0 ≤ dB
     ·by_cases hc4 : cc ≤ ab
      ·have hb0 : t.xx.b = false := by rw [HX.out.xx.neg_is]; exact decide_eq_false (fun h => Rat.not_lt.2 hc0 (rat_neg.1 h))
       have hb1 : t.yy.b = false := by rw [HX.out.yy.neg_is]; exact decide_eq_false (fun h => Rat.not_lt.2 hc1 (rat_neg.1 h))
       have hb2 : ta.b = false := by rw [HXa.out.neg_is]; exact decide_eq_false (fun h => Rat.not_lt.2 hc2 (rat_neg.1 h))
       have hb3 : tb.b = false := by rw [HXb.out.neg_is]; exact decide_eq_false (fun h => Rat.not_lt.2 hc3 (rat_neg.1 h))
       have HP : Hid (posB n q = true) := Lib.hid (by rw [HP0.out]; simp [hc0, hc1, hc2, hc3, hc4])
       obtain ⟨c_a_0, c_a_1, c_a_2⟩ := zs3 HR_a.out
       obtain ⟨c_b_0, c_b_1, c_b_2⟩ := zs3 HR_b.out
       obtain ⟨c_c_0, c_c_1, c_c_2⟩ := zs3 HR_c.out
       obtain ⟨-, -, -, -, -, -, -, c_s_7, -, -, c_s_10, -, -, -, -, -⟩ := zs16 HR_s.out
       have x0 := c_s_7
       rw [hb0] at x0
       clear hb0
       have x1 := c_s_10
       rw [hb1] at x1
       clear hb1
       have x2 := c_a_0
       rw [hb2] at x2
       clear hb2
       have x3 := c_b_0
       rw [hb3] at x3
       clear hb3
       obtain ⟨cz, hcz⟩ : ∃ z, cmpQ cc ab = z := ⟨_, rfl⟩
       have HCZ := Lib.hid hcz
       have hc5 :  cz ≤ 0 := by rw [← hcz]; exact cmpQ_le.2 hc4
       clear hcz
       refine Grow.wp_region_grow 30 [TP.eq (.pointer (some ⟨w.heap.size, 7, none⟩)), TP.eq (.pointer (some ⟨w.heap.size, 7, none⟩)), TP.eq (.bool false), TP.eq (.bool true), TP.eq (.bool true), TP.eq (.pointer (some ⟨w.heap.size, 10, none⟩)), TP.eq (.pointer (some ⟨w.heap.size, 10, none⟩)), TP.eq (.bool false), TP.eq (.bool true), TP.eq (.bool true), TP.eq (.bool true), TP.eq (.pointer (some ⟨b_a, 0, none⟩)), TP.eq (.bool false), TP.eq (.bool true), TP.eq (.bool true), TP.eq (.bool true), TP.eq (.pointer (some ⟨b_b, 0, none⟩)), TP.eq (.bool false), TP.eq (.bool true), TP.eq (.bool true), TP.eq (.bool true), TP.eq (.agg #[.bool tc.b, .slice tc.a1 tc.n1 tc.c1, .slice tc.a2 tc.n2 tc.c2]), TP.eq (.agg #[.bool tc.b, .slice tc.a1 tc.n1 tc.c1, .slice tc.a2 tc.n2 tc.c2]), TP.xq cc, TP.eq (.agg #[.bool ta.b, .slice ta.a1 ta.n1 ta.c1, .slice ta.a2 ta.n2 ta.c2]), TP.eq (.agg #[.bool tb.b, .slice tb.a1 tb.n1 tb.c1, .slice tb.a2 tb.n2 tb.c2]), TP.xq ab, TP.eq (.int .i64 cz), TP.eq (.bool true), TP.eq (.bool true)] [[], [0], [1], [2], [3], [4], [4, 5], [4, 6], [4, 7], [4, 8], [9], [10], [10, 11], [10, 12], [10, 13], [14], [15], [15, 16], [15, 17], [15, 18], [19], [20], [20], [20, 21, 22], [20], [20], [20, 24, 25], [20, 23, 26], [20, 27], [20, 28]] (by kernel_rfl) (by kernel_rfl) ⟨?o0l5, ?o1l5, ?o2l5, ?o3l5, ?o4l5, ?o5l5, ?o6l5, ?o7l5, ?o8l5, ?o9l5, ?o10l5, ?o11l5, ?o12l5, ?o13l5, ?o14l5, ?o15l5, ?o16l5, ?o17l5, ?o18l5, ?o19l5, ?o20l5, ?o21l5, ?o22l5, ?o23l5, ?o24l5, ?o25l5, ?o26l5, ?o27l5, ?o28l5, ?o29l5, trivial⟩ ?_
       case o0l5 =>
        intro w' hb
        show wpList _ _ _ _ _ _
        go_wp2
        exact ⟨rfl, Below.refl _ _, rfl⟩
       case o1l5 =>
        intro w' hb v1 hv1
        cases hv1
        show wpList _ _ _ _ _ _
        simp only [Grow.dstOf, zzp, Act.put]
        go_wp2
        exact ⟨rfl, Below.refl _ _, rfl⟩
       case o2l5 | o21l5 | o22l5 | o24l5 | o25l5 =>
        intro w' hb v1 hv1
        cases hv1
        have x0' := zzc hb x0
        have c_c_0' := zzc hb c_c_0
        have c_c_1' := zzc hb c_c_1
        have c_c_2' := zzc hb c_c_2
        have c_a_0' := zzc hb c_a_0
        have c_a_1' := zzc hb c_a_1
        have c_a_2' := zzc hb c_a_2
        have c_b_0' := zzc hb c_b_0
        have c_b_1' := zzc hb c_b_1
        have c_b_2' := zzc hb c_b_2
        show wpList _ _ _ _ _ _
        simp only [Grow.dstOf, zzp, Act.put]
        go_wp2
        exact ⟨rfl, Below.refl _ _, rfl⟩
       case o3l5 | o4l5 | o5l5 | o10l5 | o11l5 | o15l5 | o16l5 | o20l5 =>
        intro w' hb v1 hv1
        cases hv1
        show wpList _ _ _ _ _ _
        simp only [Grow.dstOf, zzp, Act.put]
        go_wp2
        exact ⟨rfl, Below.refl _ _, rfl⟩
       case o6l5 | o8l5 | o9l5 | o13l5 | o14l5 | o18l5 | o19l5 | o28l5 | o29l5 =>
        intro w' hb v1 hv1 v2 hv2
        cases hv1
        cases hv2
        show wpList _ _ _ _ _ _
        simp only [Grow.dstOf, zzp, Act.put]
        go_wp2
        exact ⟨rfl, Below.refl _ _, rfl⟩
       case o7l5 | o12l5 | o17l5 =>
        intro w' hb v1 hv1 v2 hv2
        cases hv1
        cases hv2
        have x1' := zzc hb x1
        have x2' := zzc hb x2
        have x3' := zzc hb x3
        show wpList _ _ _ _ _ _
        simp only [Grow.dstOf, zzp, Act.put]
        go_wp2
        exact ⟨rfl, Below.refl _ _, rfl⟩
       case o23l5 =>
        intro w' hb v1 hv1 v2 hv2 v3 hv3
        cases hv1
        cases hv2
        cases hv3
        show wpList _ _ _ _ _ _
        simp only [Grow.dstOf, zzp, Act.put]
        go_wp2_with fail
        refine (xtimes_sm dC dC cc HCC.out.1 _ _ w' (HXc.out.ext hb) (HXc.out.ext hb) HDC'.out.2.2.1 HDC'.out.2.2.1).mono ?_
        rintro e wz ⟨vz, rfl, hxz, hbz⟩
        go_wp2
        exact ⟨hxz, hbz, rfl⟩
       case o26l5 =>
        intro w' hb v1 hv1 v2 hv2 v3 hv3
        cases hv1
        cases hv2
        cases hv3
        show wpList _ _ _ _ _ _
        simp only [Grow.dstOf, zzp, Act.put]
        go_wp2_with fail
        refine (xtimes_sm dA dB ab HCC.out.2.1 _ _ w' (HXa.out.ext hb) (HXb.out.ext hb) HDA'.out.2.2.1 HDB'.out.2.2.1).mono ?_
        rintro e wz ⟨vz, rfl, hxz, hbz⟩
        go_wp2
        exact ⟨hxz, hbz, rfl⟩
       case o27l5 =>
        intro w' hb v1 hv1 v2 hv2 v3 hv3
        cases hv1
        have hv2' : XR w' v2 cc := hv2
        have hv3' : XR w' v3 ab := hv3
        clear hv2 hv3
        show wpList _ _ _ _ _ _
        simp only [Grow.dstOf, zzp, Act.put]
        go_wp2_with fail
        refine (xcmp_is cc ab cz HCZ.out _ _ w' hv2' hv3' HCC.out.2.2.1.1 HCC.out.2.2.1.2 HCC.out.2.2.2.1 HCC.out.2.2.2.2).mono ?_
        rintro e wz ⟨rfl, hbz⟩
        go_wp2
        exact ⟨rfl, hbz, rfl⟩
       intro w10' hbz u0 hu0 u1 hu1 u2 hu2 u3 hu3 u4 hu4 u5 hu5 u6 hu6 u7 hu7 u8 hu8 u9 hu9 u10 hu10 u11 hu11 u12 hu12 u13 hu13 u14 hu14 u15 hu15 u16 hu16 u17 hu17 u18 hu18 u19 hu19 u20 hu20 u21 hu21 u22 hu22 u23 hu23 u24 hu24 u25 hu25 u26 hu26 u27 hu27 u28 hu28 u29 hu29
       obtain rfl : u29 = _ := hu29
       clear hu0 hu1 hu2 hu3 hu4 hu5 hu6 hu7 hu8 hu9 hu10 hu11 hu12 hu13 hu14 hu15 hu16 hu17 hu18 hu19 hu20 hu21 hu22 hu23 hu24 hu25 hu26 hu27 hu28
       replace HR_s := Lib.hid (HR_s.out.ext hbz)
       replace HR_n := Lib.hid (HR_n.out.ext hbz)
       replace HR_a := Lib.hid (HR_a.out.ext hbz)
       replace HR_b := Lib.hid (HR_b.out.ext hbz)
       replace HR_c := Lib.hid (HR_c.out.ext hbz)
       replace HX := Lib.hid (HX.out.ext hbz)
       replace HXn := Lib.hid (HXn.out.ext hbz)
       replace HXa := Lib.hid (HXa.out.ext hbz)
       replace HXb := Lib.hid (HXb.out.ext hbz)
       replace HXc := Lib.hid (HXc.out.ext hbz)
       replace HW := Lib.hid (ext_trans HW.out hbz)
       clear c_a_0 c_a_1 c_a_2 c_b_0 c_b_1 c_b_2 c_c_0 c_c_1 c_c_2 c_s_7 c_s_10
       clear hbz
       show wpList _ _ _ _ _ _
       simp only [Act.put, zzp]
       go_wp2
       exact bodyPost_ret (v := .bool true) (by simp [results, Tryz.results77, go_sem]) rfl ⟨by rw [HP.out], HW.out⟩
      ·have hb0 : t.xx.b = false := by rw [HX.out.xx.neg_is]; exact decide_eq_false (fun h => Rat.not_lt.2 hc0 (rat_neg.1 h))
       have hb1 : t.yy.b = false := by rw [HX.out.yy.neg_is]; exact decide_eq_false (fun h => Rat.not_lt.2 hc1 (rat_neg.1 h))
       have hb2 : ta.b = false := by rw [HXa.out.neg_is]; exact decide_eq_false (fun h => Rat.not_lt.2 hc2 (rat_neg.1 h))
       have hb3 : tb.b = false := by rw [HXb.out.neg_is]; exact decide_eq_false (fun h => Rat.not_lt.2 hc3 (rat_neg.1 h))
       have HP : Hid (posB n q = false) := Lib.hid (by rw [HP0.out]; simp [hc0, hc1, hc2, hc3, hc4])
       obtain ⟨c_a_0, c_a_1, c_a_2⟩ := zs3 HR_a.out
       obtain ⟨c_b_0, c_b_1, c_b_2⟩ := zs3 HR_b.out
       obtain ⟨c_c_0, c_c_1, c_c_2⟩ := zs3 HR_c.out
       obtain ⟨-, -, -, -, -, -, -, c_s_7, -, -, c_s_10, -, -, -, -, -⟩ := zs16 HR_s.out
       have x0 := c_s_7
       rw [hb0] at x0
       clear hb0
       have x1 := c_s_10
       rw [hb1] at x1
       clear hb1
       have x2 := c_a_0
       rw [hb2] at x2
       clear hb2
       have x3 := c_b_0
       rw [hb3] at x3
       clear hb3
       obtain ⟨cz, hcz⟩ : ∃ z, cmpQ cc ab = z := ⟨_, rfl⟩
       have HCZ := Lib.hid hcz
       have hc5 : ¬ cz ≤ 0 := by rw [← hcz]; exact fun h => hc4 (cmpQ_le.1 h)
       clear hcz
       refine Grow.wp_region_grow 30 [TP.eq (.pointer (some ⟨w.heap.size, 7, none⟩)), TP.eq (.pointer (some ⟨w.heap.size, 7, none⟩)), TP.eq (.bool false), TP.eq (.bool true), TP.eq (.bool true), TP.eq (.pointer (some ⟨w.heap.size, 10, none⟩)), TP.eq (.pointer (some ⟨w.heap.size, 10, none⟩)), TP.eq (.bool false), TP.eq (.bool true), TP.eq (.bool true), TP.eq (.bool true), TP.eq (.pointer (some ⟨b_a, 0, none⟩)), TP.eq (.bool false), TP.eq (.bool true), TP.eq (.bool true), TP.eq (.bool true), TP.eq (.pointer (some ⟨b_b, 0, none⟩)), TP.eq (.bool false), TP.eq (.bool true), TP.eq (.bool true), TP.eq (.bool true), TP.eq (.agg #[.bool tc.b, .slice tc.a1 tc.n1 tc.c1, .slice tc.a2 tc.n2 tc.c2]), TP.eq (.agg #[.bool tc.b, .slice tc.a1 tc.n1 tc.c1, .slice tc.a2 tc.n2 tc.c2]), TP.xq cc, TP.eq (.agg #[.bool ta.b, .slice ta.a1 ta.n1 ta.c1, .slice ta.a2 ta.n2 ta.c2]), TP.eq (.agg #[.bool tb.b, .slice tb.a1 tb.n1 tb.c1, .slice tb.a2 tb.n2 tb.c2]), TP.xq ab, TP.eq (.int .i64 cz), TP.eq (.bool false), TP.eq (.bool false)] [[], [0], [1], [2], [3], [4], [4, 5], [4, 6], [4, 7], [4, 8], [9], [10], [10, 11], [10, 12], [10, 13], [14], [15], [15, 16], [15, 17], [15, 18], [19], [20], [20], [20, 21, 22], [20], [20], [20, 24, 25], [20, 23, 26], [20, 27], [20, 28]] (by kernel_rfl) (by kernel_rfl) ⟨?o0l4, ?o1l4, ?o2l4, ?o3l4, ?o4l4, ?o5l4, ?o6l4, ?o7l4, ?o8l4, ?o9l4, ?o10l4, ?o11l4, ?o12l4, ?o13l4, ?o14l4, ?o15l4, ?o16l4, ?o17l4, ?o18l4, ?o19l4, ?o20l4, ?o21l4, ?o22l4, ?o23l4, ?o24l4, ?o25l4, ?o26l4, ?o27l4, ?o28l4, ?o29l4, trivial⟩ ?_
       case o0l4 =>
        intro w' hb
        show wpList _ _ _ _ _ _
        go_wp2
        exact ⟨rfl, Below.refl _ _, rfl⟩
       case o1l4 =>
        intro w' hb v1 hv1
        cases hv1
        show wpList _ _ _ _ _ _
        simp only [Grow.dstOf, zzp, Act.put]
        go_wp2
        exact ⟨rfl, Below.refl _ _, rfl⟩
       case o2l4 | o21l4 | o22l4 | o24l4 | o25l4 =>
        intro w' hb v1 hv1
        cases hv1
        have x0' := zzc hb x0
        have c_c_0' := zzc hb c_c_0
        have c_c_1' := zzc hb c_c_1
        have c_c_2' := zzc hb c_c_2
        have c_a_0' := zzc hb c_a_0
        have c_a_1' := zzc hb c_a_1
        have c_a_2' := zzc hb c_a_2
        have c_b_0' := zzc hb c_b_0
        have c_b_1' := zzc hb c_b_1
        have c_b_2' := zzc hb c_b_2
        show wpList _ _ _ _ _ _
        simp only [Grow.dstOf, zzp, Act.put]
        go_wp2
        exact ⟨rfl, Below.refl _ _, rfl⟩
       case o3l4 | o4l4 | o5l4 | o10l4 | o11l4 | o15l4 | o16l4 | o20l4 =>
        intro w' hb v1 hv1
        cases hv1
        show wpList _ _ _ _ _ _
        simp only [Grow.dstOf, zzp, Act.put]
        go_wp2
        exact ⟨rfl, Below.refl _ _, rfl⟩
       case o6l4 | o8l4 | o9l4 | o13l4 | o14l4 | o18l4 | o19l4 | o28l4 | o29l4 =>
        intro w' hb v1 hv1 v2 hv2
        cases hv1
        cases hv2
        show wpList _ _ _ _ _ _
        simp only [Grow.dstOf, zzp, Act.put]
        go_wp2
        exact ⟨rfl, Below.refl _ _, rfl⟩
       case o7l4 | o12l4 | o17l4 =>
        intro w' hb v1 hv1 v2 hv2
        cases hv1
        cases hv2
        have x1' := zzc hb x1
        have x2' := zzc hb x2
        have x3' := zzc hb x3
        show wpList _ _ _ _ _ _
        simp only [Grow.dstOf, zzp, Act.put]
        go_wp2
        exact ⟨rfl, Below.refl _ _, rfl⟩
       case o23l4 =>
        intro w' hb v1 hv1 v2 hv2 v3 hv3
        cases hv1
        cases hv2
        cases hv3
        show wpList _ _ _ _ _ _
        simp only [Grow.dstOf, zzp, Act.put]
        go_wp2_with fail
        refine (xtimes_sm dC dC cc HCC.out.1 _ _ w' (HXc.out.ext hb) (HXc.out.ext hb) HDC'.out.2.2.1 HDC'.out.2.2.1).mono ?_
        rintro e wz ⟨vz, rfl, hxz, hbz⟩
        go_wp2
        exact ⟨hxz, hbz, rfl⟩
       case o26l4 =>
        intro w' hb v1 hv1 v2 hv2 v3 hv3
        cases hv1
        cases hv2
        cases hv3
        show wpList _ _ _ _ _ _
        simp only [Grow.dstOf, zzp, Act.put]
        go_wp2_with fail
        refine (xtimes_sm dA dB ab HCC.out.2.1 _ _ w' (HXa.out.ext hb) (HXb.out.ext hb) HDA'.out.2.2.1 HDB'.out.2.2.1).mono ?_
        rintro e wz ⟨vz, rfl, hxz, hbz⟩
        go_wp2
        exact ⟨hxz, hbz, rfl⟩
       case o27l4 =>
        intro w' hb v1 hv1 v2 hv2 v3 hv3
        cases hv1
        have hv2' : XR w' v2 cc := hv2
        have hv3' : XR w' v3 ab := hv3
        clear hv2 hv3
        show wpList _ _ _ _ _ _
        simp only [Grow.dstOf, zzp, Act.put]
        go_wp2_with fail
        refine (xcmp_is cc ab cz HCZ.out _ _ w' hv2' hv3' HCC.out.2.2.1.1 HCC.out.2.2.1.2 HCC.out.2.2.2.1 HCC.out.2.2.2.2).mono ?_
        rintro e wz ⟨rfl, hbz⟩
        go_wp2
        exact ⟨rfl, hbz, rfl⟩
       intro w10' hbz u0 hu0 u1 hu1 u2 hu2 u3 hu3 u4 hu4 u5 hu5 u6 hu6 u7 hu7 u8 hu8 u9 hu9 u10 hu10 u11 hu11 u12 hu12 u13 hu13 u14 hu14 u15 hu15 u16 hu16 u17 hu17 u18 hu18 u19 hu19 u20 hu20 u21 hu21 u22 hu22 u23 hu23 u24 hu24 u25 hu25 u26 hu26 u27 hu27 u28 hu28 u29 hu29
       obtain rfl : u29 = _ := hu29
       clear hu0 hu1 hu2 hu3 hu4 hu5 hu6 hu7 hu8 hu9 hu10 hu11 hu12 hu13 hu14 hu15 hu16 hu17 hu18 hu19 hu20 hu21 hu22 hu23 hu24 hu25 hu26 hu27 hu28
       replace HR_s := Lib.hid (HR_s.out.ext hbz)
       replace HR_n := Lib.hid (HR_n.out.ext hbz)
       replace HR_a := Lib.hid (HR_a.out.ext hbz)
       replace HR_b := Lib.hid (HR_b.out.ext hbz)
       replace HR_c := Lib.hid (HR_c.out.ext hbz)
       replace HX := Lib.hid (HX.out.ext hbz)
       replace HXn := Lib.hid (HXn.out.ext hbz)
       replace HXa := Lib.hid (HXa.out.ext hbz)
       replace HXb := Lib.hid (HXb.out.ext hbz)
       replace HXc := Lib.hid (HXc.out.ext hbz)
       replace HW := Lib.hid (ext_trans HW.out hbz)
       clear c_a_0 c_a_1 c_a_2 c_b_0 c_b_1 c_b_2 c_c_0 c_c_1 c_c_2 c_s_7 c_s_10
       clear hbz
       show wpList _ _ _ _ _ _
       simp only [Act.put, zzp]
       go_wp2
       exact bodyPost_ret (v := .bool false) (by simp [results, Tryz.results77, go_sem]) rfl ⟨by rw [HP.out], HW.out⟩
     ·have hb0 : t.xx.b = false := by rw [HX.out.xx.neg_is]; exact decide_eq_false (fun h => Rat.not_lt.2 hc0 (rat_neg.1 h))
      have hb1 : t.yy.b = false := by rw [HX.out.yy.neg_is]; exact decide_eq_false (fun h => Rat.not_lt.2 hc1 (rat_neg.1 h))
      have hb2 : ta.b = false := by rw [HXa.out.neg_is]; exact decide_eq_false (fun h => Rat.not_lt.2 hc2 (rat_neg.1 h))
      have hb3 : tb.b = true := by rw [HXb.out.neg_is]; exact decide_eq_true (rat_neg.2 (Rat.not_le.1 hc3))
      have HP : Hid (posB n q = false) := Lib.hid (by rw [HP0.out]; simp [hc0, hc1, hc2, hc3])
      obtain ⟨c_a_0, c_a_1, c_a_2⟩ := zs3 HR_a.out
      obtain ⟨c_b_0, c_b_1, c_b_2⟩ := zs3 HR_b.out
      obtain ⟨c_c_0, c_c_1, c_c_2⟩ := zs3 HR_c.out
      obtain ⟨-, -, -, -, -, -, -, c_s_7, -, -, c_s_10, -, -, -, -, -⟩ := zs16 HR_s.out
      have x0 := c_s_7
      rw [hb0] at x0
      clear hb0
      have x1 := c_s_10
      rw [hb1] at x1
      clear hb1
      have x2 := c_a_0
      rw [hb2] at x2
      clear hb2
      have x3 := c_b_0
      rw [hb3] at x3
      clear hb3
      refine Grow.wp_region_grow 30 [TP.eq (.pointer (some ⟨w.heap.size, 7, none⟩)), TP.eq (.pointer (some ⟨w.heap.size, 7, none⟩)), TP.eq (.bool false), TP.eq (.bool true), TP.eq (.bool true), TP.eq (.pointer (some ⟨w.heap.size, 10, none⟩)), TP.eq (.pointer (some ⟨w.heap.size, 10, none⟩)), TP.eq (.bool false), TP.eq (.bool true), TP.eq (.bool true), TP.eq (.bool true), TP.eq (.pointer (some ⟨b_a, 0, none⟩)), TP.eq (.bool false), TP.eq (.bool true), TP.eq (.bool true), TP.eq (.bool true), TP.eq (.pointer (some ⟨b_b, 0, none⟩)), TP.eq (.bool true), TP.eq (.bool false), TP.eq (.bool false), TP.eq (.bool false), TP.eq undef, TP.eq undef, TP.eq undef, TP.eq undef, TP.eq undef, TP.eq undef, TP.eq undef, TP.eq undef, TP.eq (.bool false)] [[], [0], [1], [2], [3], [4], [4, 5], [4, 6], [4, 7], [4, 8], [9], [10], [10, 11], [10, 12], [10, 13], [14], [15], [15, 16], [15, 17], [15, 18], [19], [20], [20], [20, 21, 22], [20], [20], [20, 24, 25], [20, 23, 26], [20, 27], [20, 28]] (by kernel_rfl) (by kernel_rfl) ⟨?o0l3, ?o1l3, ?o2l3, ?o3l3, ?o4l3, ?o5l3, ?o6l3, ?o7l3, ?o8l3, ?o9l3, ?o10l3, ?o11l3, ?o12l3, ?o13l3, ?o14l3, ?o15l3, ?o16l3, ?o17l3, ?o18l3, ?o19l3, ?o20l3, ?o21l3, ?o22l3, ?o23l3, ?o24l3, ?o25l3, ?o26l3, ?o27l3, ?o28l3, ?o29l3, trivial⟩ ?_
      case o0l3 =>
       intro w' hb
       show wpList _ _ _ _ _ _
       go_wp2
       exact ⟨rfl, Below.refl _ _, rfl⟩
      case o1l3 =>
       intro w' hb v1 hv1
       cases hv1
       show wpList _ _ _ _ _ _
       simp only [Grow.dstOf, zzp, Act.put]
       go_wp2
       exact ⟨rfl, Below.refl _ _, rfl⟩
      case o2l3 =>
       intro w' hb v1 hv1
       cases hv1
       have x0' := zzc hb x0
       show wpList _ _ _ _ _ _
       simp only [Grow.dstOf, zzp, Act.put]
       go_wp2
       exact ⟨rfl, Below.refl _ _, rfl⟩
      case o3l3 | o4l3 | o5l3 | o10l3 | o11l3 | o15l3 | o16l3 | o20l3 | o21l3 | o22l3 | o24l3 | o25l3 =>
       intro w' hb v1 hv1
       cases hv1
       show wpList _ _ _ _ _ _
       simp only [Grow.dstOf, zzp, Act.put]
       go_wp2
       exact ⟨rfl, Below.refl _ _, rfl⟩
      case o6l3 | o8l3 | o9l3 | o13l3 | o14l3 | o18l3 | o19l3 | o28l3 | o29l3 =>
       intro w' hb v1 hv1 v2 hv2
       cases hv1
       cases hv2
       show wpList _ _ _ _ _ _
       simp only [Grow.dstOf, zzp, Act.put]
       go_wp2
       exact ⟨rfl, Below.refl _ _, rfl⟩
      case o7l3 | o12l3 | o17l3 =>
       intro w' hb v1 hv1 v2 hv2
       cases hv1
       cases hv2
       have x1' := zzc hb x1
       have x2' := zzc hb x2
       have x3' := zzc hb x3
       show wpList _ _ _ _ _ _
       simp only [Grow.dstOf, zzp, Act.put]
       go_wp2
       exact ⟨rfl, Below.refl _ _, rfl⟩
      case o23l3 | o26l3 | o27l3 =>
       intro w' hb v1 hv1 v2 hv2 v3 hv3
       cases hv1
       cases hv2
       cases hv3
       show wpList _ _ _ _ _ _
       simp only [Grow.dstOf, zzp, Act.put]
       go_wp2
       exact ⟨rfl, Below.refl _ _, rfl⟩
      intro w10' hbz u0 hu0 u1 hu1 u2 hu2 u3 hu3 u4 hu4 u5 hu5 u6 hu6 u7 hu7 u8 hu8 u9 hu9 u10 hu10 u11 hu11 u12 hu12 u13 hu13 u14 hu14 u15 hu15 u16 hu16 u17 hu17 u18 hu18 u19 hu19 u20 hu20 u21 hu21 u22 hu22 u23 hu23 u24 hu24 u25 hu25 u26 hu26 u27 hu27 u28 hu28 u29 hu29
      obtain rfl : u29 = _ := hu29
      clear hu0 hu1 hu2 hu3 hu4 hu5 hu6 hu7 hu8 hu9 hu10 hu11 hu12 hu13 hu14 hu15 hu16 hu17 hu18 hu19 hu20 hu21 hu22 hu23 hu24 hu25 hu26 hu27 hu28
      replace HR_s := Lib.hid (HR_s.out.ext hbz)
      replace HR_n := Lib.hid (HR_n.out.ext hbz)
      replace HR_a := Lib.hid (HR_a.out.ext hbz)
      replace HR_b := Lib.hid (HR_b.out.ext hbz)
      replace HR_c := Lib.hid (HR_c.out.ext hbz)
      replace HX := Lib.hid (HX.out.ext hbz)
      replace HXn := Lib.hid (HXn.out.ext hbz)
      replace HXa := Lib.hid (HXa.out.ext hbz)
      replace HXb := Lib.hid (HXb.out.ext hbz)
      replace HXc := Lib.hid (HXc.out.ext hbz)
      replace HW := Lib.hid (ext_trans HW.out hbz)
      clear c_a_0 c_a_1 c_a_2 c_b_0 c_b_1 c_b_2 c_c_0 c_c_1 c_c_2 c_s_7 c_s_10
      clear hbz
      show wpList _ _ _ _ _ _
      simp only [Act.put, zzp]
      go_wp2
      exact bodyPost_ret (v := .bool false) (by simp [results, Tryz.results77, go_sem]) rfl ⟨by rw [HP.out], HW.out⟩
    ·have hb0 : t.xx.b = false := by rw [HX.out.xx.neg_is]; exact decide_eq_false (fun h => Rat.not_lt.2 hc0 (rat_neg.1 h))
     have hb1 : t.yy.b = false := by rw [HX.out.yy.neg_is]; exact decide_eq_false (fun h => Rat.not_lt.2 hc1 (rat_neg.1 h))
     have hb2 : ta.b = true := by rw [HXa.out.neg_is]; exact decide_eq_true (rat_neg.2 (Rat.not_le.1 hc2))
     have HP : Hid (posB n q = false) := Lib.hid (by rw [HP0.out]; simp [hc0, hc1, hc2])
     obtain ⟨c_a_0, c_a_1, c_a_2⟩ := zs3 HR_a.out
     obtain ⟨c_b_0, c_b_1, c_b_2⟩ := zs3 HR_b.out
     obtain ⟨c_c_0, c_c_1, c_c_2⟩ := zs3 HR_c.out
     obtain ⟨-, -, -, -, -, -, -, c_s_7, -, -, c_s_10, -, -, -, -, -⟩ := zs16 HR_s.out
     have x0 := c_s_7
     rw [hb0] at x0
     clear hb0
     have x1 := c_s_10
     rw [hb1] at x1
     clear hb1
     have x2 := c_a_0
     rw [hb2] at x2
     clear hb2
     refine Grow.wp_region_grow 30 [TP.eq (.pointer (some ⟨w.heap.size, 7, none⟩)), TP.eq (.pointer (some ⟨w.heap.size, 7, none⟩)), TP.eq (.bool false), TP.eq (.bool true), TP.eq (.bool true), TP.eq (.pointer (some ⟨w.heap.size, 10, none⟩)), TP.eq (.pointer (some ⟨w.heap.size, 10, none⟩)), TP.eq (.bool false), TP.eq (.bool true), TP.eq (.bool true), TP.eq (.bool true), TP.eq (.pointer (some ⟨b_a, 0, none⟩)), TP.eq (.bool true), TP.eq (.bool false), TP.eq (.bool false), TP.eq (.bool false), TP.eq undef, TP.eq undef, TP.eq undef, TP.eq (.bool false), TP.eq (.bool false), TP.eq undef, TP.eq undef, TP.eq undef, TP.eq undef, TP.eq undef, TP.eq undef, TP.eq undef, TP.eq undef, TP.eq (.bool false)] [[], [0], [1], [2], [3], [4], [4, 5], [4, 6], [4, 7], [4, 8], [9], [10], [10, 11], [10, 12], [10, 13], [14], [15], [15, 16], [15, 17], [15, 18], [19], [20], [20], [20, 21, 22], [20], [20], [20, 24, 25], [20, 23, 26], [20, 27], [20, 28]] (by kernel_rfl) (by kernel_rfl) ⟨?o0l2, ?o1l2, ?o2l2, ?o3l2, ?o4l2, ?o5l2, ?o6l2, ?o7l2, ?o8l2, ?o9l2, ?o10l2, ?o11l2, ?o12l2, ?o13l2, ?o14l2, ?o15l2, ?o16l2, ?o17l2, ?o18l2, ?o19l2, ?o20l2, ?o21l2, ?o22l2, ?o23l2, ?o24l2, ?o25l2, ?o26l2, ?o27l2, ?o28l2, ?o29l2, trivial⟩ ?_
     case o0l2 =>
      intro w' hb
      show wpList _ _ _ _ _ _
      go_wp2
      exact ⟨rfl, Below.refl _ _, rfl⟩
     case o1l2 =>
      intro w' hb v1 hv1
      cases hv1
      show wpList _ _ _ _ _ _
      simp only [Grow.dstOf, zzp, Act.put]
      go_wp2
      exact ⟨rfl, Below.refl _ _, rfl⟩
     case o2l2 =>
      intro w' hb v1 hv1
      cases hv1
      have x0' := zzc hb x0
      show wpList _ _ _ _ _ _
      simp only [Grow.dstOf, zzp, Act.put]
      go_wp2
      exact ⟨rfl, Below.refl _ _, rfl⟩
     case o3l2 | o4l2 | o5l2 | o10l2 | o11l2 | o15l2 | o16l2 | o20l2 | o21l2 | o22l2 | o24l2 | o25l2 =>
      intro w' hb v1 hv1
      cases hv1
      show wpList _ _ _ _ _ _
      simp only [Grow.dstOf, zzp, Act.put]
      go_wp2
      exact ⟨rfl, Below.refl _ _, rfl⟩
     case o6l2 | o8l2 | o9l2 | o13l2 | o14l2 | o17l2 | o18l2 | o19l2 | o28l2 | o29l2 =>
      intro w' hb v1 hv1 v2 hv2
      cases hv1
      cases hv2
      show wpList _ _ _ _ _ _
      simp only [Grow.dstOf, zzp, Act.put]
      go_wp2
      exact ⟨rfl, Below.refl _ _, rfl⟩
     case o7l2 | o12l2 =>
      intro w' hb v1 hv1 v2 hv2
      cases hv1
      cases hv2
      have x1' := zzc hb x1
      have x2' := zzc hb x2
      show wpList _ _ _ _ _ _
      simp only [Grow.dstOf, zzp, Act.put]
      go_wp2
      exact ⟨rfl, Below.refl _ _, rfl⟩
     case o23l2 | o26l2 | o27l2 =>
      intro w' hb v1 hv1 v2 hv2 v3 hv3
      cases hv1
      cases hv2
      cases hv3
      show wpList _ _ _ _ _ _
      simp only [Grow.dstOf, zzp, Act.put]
      go_wp2
      exact ⟨rfl, Below.refl _ _, rfl⟩
     intro w10' hbz u0 hu0 u1 hu1 u2 hu2 u3 hu3 u4 hu4 u5 hu5 u6 hu6 u7 hu7 u8 hu8 u9 hu9 u10 hu10 u11 hu11 u12 hu12 u13 hu13 u14 hu14 u15 hu15 u16 hu16 u17 hu17 u18 hu18 u19 hu19 u20 hu20 u21 hu21 u22 hu22 u23 hu23 u24 hu24 u25 hu25 u26 hu26 u27 hu27 u28 hu28 u29 hu29
     obtain rfl : u29 = _ := hu29
     clear hu0 hu1 hu2 hu3 hu4 hu5 hu6 hu7 hu8 hu9 hu10 hu11 hu12 hu13 hu14 hu15 hu16 hu17 hu18 hu19 hu20 hu21 hu22 hu23 hu24 hu25 hu26 hu27 hu28
     replace HR_s := Lib.hid (HR_s.out.ext hbz)
     replace HR_n := Lib.hid (HR_n.out.ext hbz)
     replace HR_a := Lib.hid (HR_a.out.ext hbz)
     replace HR_b := Lib.hid (HR_b.out.ext hbz)
     replace HR_c := Lib.hid (HR_c.out.ext hbz)
     replace HX := Lib.hid (HX.out.ext hbz)
     replace HXn := Lib.hid (HXn.out.ext hbz)
     replace HXa := Lib.hid (HXa.out.ext hbz)
     replace HXb := Lib.hid (HXb.out.ext hbz)
     replace HXc := Lib.hid (HXc.out.ext hbz)
     replace HW := Lib.hid (ext_trans HW.out hbz)
     clear c_a_0 c_a_1 c_a_2 c_b_0 c_b_1 c_b_2 c_c_0 c_c_1 c_c_2 c_s_7 c_s_10
     clear hbz
     show wpList _ _ _ _ _ _
     simp only [Act.put, zzp]
     go_wp2
     exact bodyPost_ret (v := .bool false) (by simp [results, Tryz.results77, go_sem]) rfl ⟨by rw [HP.out], HW.out⟩
   ·have hb0 : t.xx.b = false := by rw [HX.out.xx.neg_is]; exact decide_eq_false (fun h => Rat.not_lt.2 hc0 (rat_neg.1 h))
    have hb1 : t.yy.b = true := by rw [HX.out.yy.neg_is]; exact decide_eq_true (rat_neg.2 (Rat.not_le.1 hc1))
    have HP : Hid (posB n q = false) := Lib.hid (by rw [HP0.out]; simp [hc0, hc1])
    obtain ⟨c_a_0, c_a_1, c_a_2⟩ := zs3 HR_a.out
    obtain ⟨c_b_0, c_b_1, c_b_2⟩ := zs3 HR_b.out
    obtain ⟨c_c_0, c_c_1, c_c_2⟩ := zs3 HR_c.out
    obtain ⟨-, -, -, -, -, -, -, c_s_7, -, -, c_s_10, -, -, -, -, -⟩ := zs16 HR_s.out
    have x0 := c_s_7
    rw [hb0] at x0
    clear hb0
    have x1 := c_s_10
    rw [hb1] at x1
    clear hb1
    refine Grow.wp_region_grow 30 [TP.eq (.pointer (some ⟨w.heap.size, 7, none⟩)), TP.eq (.pointer (some ⟨w.heap.size, 7, none⟩)), TP.eq (.bool false), TP.eq (.bool true), TP.eq (.bool true), TP.eq (.pointer (some ⟨w.heap.size, 10, none⟩)), TP.eq (.pointer (some ⟨w.heap.size, 10, none⟩)), TP.eq (.bool true), TP.eq (.bool false), TP.eq (.bool false), TP.eq (.bool false), TP.eq undef, TP.eq undef, TP.eq undef, TP.eq (.bool false), TP.eq (.bool false), TP.eq undef, TP.eq undef, TP.eq undef, TP.eq (.bool false), TP.eq (.bool false), TP.eq undef, TP.eq undef, TP.eq undef, TP.eq undef, TP.eq undef, TP.eq undef, TP.eq undef, TP.eq undef, TP.eq (.bool false)] [[], [0], [1], [2], [3], [4], [4, 5], [4, 6], [4, 7], [4, 8], [9], [10], [10, 11], [10, 12], [10, 13], [14], [15], [15, 16], [15, 17], [15, 18], [19], [20], [20], [20, 21, 22], [20], [20], [20, 24, 25], [20, 23, 26], [20, 27], [20, 28]] (by kernel_rfl) (by kernel_rfl) ⟨?o0l1, ?o1l1, ?o2l1, ?o3l1, ?o4l1, ?o5l1, ?o6l1, ?o7l1, ?o8l1, ?o9l1, ?o10l1, ?o11l1, ?o12l1, ?o13l1, ?o14l1, ?o15l1, ?o16l1, ?o17l1, ?o18l1, ?o19l1, ?o20l1, ?o21l1, ?o22l1, ?o23l1, ?o24l1, ?o25l1, ?o26l1, ?o27l1, ?o28l1, ?o29l1, trivial⟩ ?_
    case o0l1 =>
     intro w' hb
     show wpList _ _ _ _ _ _
     go_wp2
     exact ⟨rfl, Below.refl _ _, rfl⟩
    case o1l1 =>
     intro w' hb v1 hv1
     cases hv1
     show wpList _ _ _ _ _ _
     simp only [Grow.dstOf, zzp, Act.put]
     go_wp2
     exact ⟨rfl, Below.refl _ _, rfl⟩
    case o2l1 =>
     intro w' hb v1 hv1
     cases hv1
     have x0' := zzc hb x0
     show wpList _ _ _ _ _ _
     simp only [Grow.dstOf, zzp, Act.put]
     go_wp2
     exact ⟨rfl, Below.refl _ _, rfl⟩
    case o3l1 | o4l1 | o5l1 | o10l1 | o11l1 | o15l1 | o16l1 | o20l1 | o21l1 | o22l1 | o24l1 | o25l1 =>
     intro w' hb v1 hv1
     cases hv1
     show wpList _ _ _ _ _ _
     simp only [Grow.dstOf, zzp, Act.put]
     go_wp2
     exact ⟨rfl, Below.refl _ _, rfl⟩
    case o6l1 | o8l1 | o9l1 | o12l1 | o13l1 | o14l1 | o17l1 | o18l1 | o19l1 | o28l1 | o29l1 =>
     intro w' hb v1 hv1 v2 hv2
     cases hv1
     cases hv2
     show wpList _ _ _ _ _ _
     simp only [Grow.dstOf, zzp, Act.put]
     go_wp2
     exact ⟨rfl, Below.refl _ _, rfl⟩
    case o7l1 =>
     intro w' hb v1 hv1 v2 hv2
     cases hv1
     cases hv2
     have x1' := zzc hb x1
     show wpList _ _ _ _ _ _
     simp only [Grow.dstOf, zzp, Act.put]
     go_wp2
     exact ⟨rfl, Below.refl _ _, rfl⟩
    case o23l1 | o26l1 | o27l1 =>
     intro w' hb v1 hv1 v2 hv2 v3 hv3
     cases hv1
     cases hv2
     cases hv3
     show wpList _ _ _ _ _ _
     simp only [Grow.dstOf, zzp, Act.put]
     go_wp2
     exact ⟨rfl, Below.refl _ _, rfl⟩
    intro w10' hbz u0 hu0 u1 hu1 u2 hu2 u3 hu3 u4 hu4 u5 hu5 u6 hu6 u7 hu7 u8 hu8 u9 hu9 u10 hu10 u11 hu11 u12 hu12 u13 hu13 u14 hu14 u15 hu15 u16 hu16 u17 hu17 u18 hu18 u19 hu19 u20 hu20 u21 hu21 u22 hu22 u23 hu23 u24 hu24 u25 hu25 u26 hu26 u27 hu27 u28 hu28 u29 hu29
    obtain rfl : u29 = _ := hu29
    clear hu0 hu1 hu2 hu3 hu4 hu5 hu6 hu7 hu8 hu9 hu10 hu11 hu12 hu13 hu14 hu15 hu16 hu17 hu18 hu19 hu20 hu21 hu22 hu23 hu24 hu25 hu26 hu27 hu28
    replace HR_s := Lib.hid (HR_s.out.ext hbz)
    replace HR_n := Lib.hid (HR_n.out.ext hbz)
    replace HR_a := Lib.hid (HR_a.out.ext hbz)
    replace HR_b := Lib.hid (HR_b.out.ext hbz)
    replace HR_c := Lib.hid (HR_c.out.ext hbz)
    replace HX := Lib.hid (HX.out.ext hbz)
    replace HXn := Lib.hid (HXn.out.ext hbz)
    replace HXa := Lib.hid (HXa.out.ext hbz)
    replace HXb := Lib.hid (HXb.out.ext hbz)
    replace HXc := Lib.hid (HXc.out.ext hbz)
    replace HW := Lib.hid (ext_trans HW.out hbz)
    clear c_a_0 c_a_1 c_a_2 c_b_0 c_b_1 c_b_2 c_c_0 c_c_1 c_c_2 c_s_7 c_s_10
    clear hbz
    show wpList _ _ _ _ _ _
    simp only [Act.put, zzp]
    go_wp2
    exact bodyPost_ret (v := .bool false) (by simp [results, Tryz.results77, go_sem]) rfl ⟨by rw [HP.out], HW.out⟩
  ·have hb0 : t.xx.b = true := by rw [HX.out.xx.neg_is]; exact decide_eq_true (rat_neg.2 (Rat.not_le.1 hc0))
   have HP : Hid (posB n q = false) := Lib.hid (by rw [HP0.out]; simp [hc0])
   obtain ⟨c_a_0, c_a_1, c_a_2⟩ := zs3 HR_a.out
   obtain ⟨c_b_0, c_b_1, c_b_2⟩ := zs3 HR_b.out
   obtain ⟨c_c_0, c_c_1, c_c_2⟩ := zs3 HR_c.out
   obtain ⟨-, -, -, -, -, -, -, c_s_7, -, -, c_s_10, -, -, -, -, -⟩ := zs16 HR_s.out
   have x0 := c_s_7
   rw [hb0] at x0
   clear hb0
   refine Grow.wp_region_grow 30 [TP.eq (.pointer (some ⟨w.heap.size, 7, none⟩)), TP.eq (.pointer (some ⟨w.heap.size, 7, none⟩)), TP.eq (.bool true), TP.eq (.bool false), TP.eq (.bool false), TP.eq undef, TP.eq undef, TP.eq undef, TP.eq undef, TP.eq (.bool false), TP.eq (.bool false), TP.eq undef, TP.eq undef, TP.eq undef, TP.eq (.bool false), TP.eq (.bool false), TP.eq undef, TP.eq undef, TP.eq undef, TP.eq (.bool false), TP.eq (.bool false), TP.eq undef, TP.eq undef, TP.eq undef, TP.eq undef, TP.eq undef, TP.eq undef, TP.eq undef, TP.eq undef, TP.eq (.bool false)] [[], [0], [1], [2], [3], [4], [4, 5], [4, 6], [4, 7], [4, 8], [9], [10], [10, 11], [10, 12], [10, 13], [14], [15], [15, 16], [15, 17], [15, 18], [19], [20], [20], [20, 21, 22], [20], [20], [20, 24, 25], [20, 23, 26], [20, 27], [20, 28]] (by kernel_rfl) (by kernel_rfl) ⟨?o0l0, ?o1l0, ?o2l0, ?o3l0, ?o4l0, ?o5l0, ?o6l0, ?o7l0, ?o8l0, ?o9l0, ?o10l0, ?o11l0, ?o12l0, ?o13l0, ?o14l0, ?o15l0, ?o16l0, ?o17l0, ?o18l0, ?o19l0, ?o20l0, ?o21l0, ?o22l0, ?o23l0, ?o24l0, ?o25l0, ?o26l0, ?o27l0, ?o28l0, ?o29l0, trivial⟩ ?_
   case o0l0 =>
    intro w' hb
    show wpList _ _ _ _ _ _
    go_wp2
    exact ⟨rfl, Below.refl _ _, rfl⟩
   case o1l0 =>
    intro w' hb v1 hv1
    cases hv1
    show wpList _ _ _ _ _ _
    simp only [Grow.dstOf, zzp, Act.put]
    go_wp2
    exact ⟨rfl, Below.refl _ _, rfl⟩
   case o2l0 =>
    intro w' hb v1 hv1
    cases hv1
    have x0' := zzc hb x0
    show wpList _ _ _ _ _ _
    simp only [Grow.dstOf, zzp, Act.put]
    go_wp2
    exact ⟨rfl, Below.refl _ _, rfl⟩
   case o3l0 | o4l0 | o5l0 | o10l0 | o11l0 | o15l0 | o16l0 | o20l0 | o21l0 | o22l0 | o24l0 | o25l0 =>
    intro w' hb v1 hv1
    cases hv1
    show wpList _ _ _ _ _ _
    simp only [Grow.dstOf, zzp, Act.put]
    go_wp2
    exact ⟨rfl, Below.refl _ _, rfl⟩
   case o6l0 | o7l0 | o8l0 | o9l0 | o12l0 | o13l0 | o14l0 | o17l0 | o18l0 | o19l0 | o28l0 | o29l0 =>
    intro w' hb v1 hv1 v2 hv2
    cases hv1
    cases hv2
    show wpList _ _ _ _ _ _
    simp only [Grow.dstOf, zzp, Act.put]
    go_wp2
    exact ⟨rfl, Below.refl _ _, rfl⟩
   case o23l0 | o26l0 | o27l0 =>
    intro w' hb v1 hv1 v2 hv2 v3 hv3
    cases hv1
    cases hv2
    cases hv3
    show wpList _ _ _ _ _ _
    simp only [Grow.dstOf, zzp, Act.put]
    go_wp2
    exact ⟨rfl, Below.refl _ _, rfl⟩
   intro w10' hbz u0 hu0 u1 hu1 u2 hu2 u3 hu3 u4 hu4 u5 hu5 u6 hu6 u7 hu7 u8 hu8 u9 hu9 u10 hu10 u11 hu11 u12 hu12 u13 hu13 u14 hu14 u15 hu15 u16 hu16 u17 hu17 u18 hu18 u19 hu19 u20 hu20 u21 hu21 u22 hu22 u23 hu23 u24 hu24 u25 hu25 u26 hu26 u27 hu27 u28 hu28 u29 hu29
   obtain rfl : u29 = _ := hu29
   clear hu0 hu1 hu2 hu3 hu4 hu5 hu6 hu7 hu8 hu9 hu10 hu11 hu12 hu13 hu14 hu15 hu16 hu17 hu18 hu19 hu20 hu21 hu22 hu23 hu24 hu25 hu26 hu27 hu28
   replace HR_s := Lib.hid (HR_s.out.ext hbz)
   replace HR_n := Lib.hid (HR_n.out.ext hbz)
   replace HR_a := Lib.hid (HR_a.out.ext hbz)
   replace HR_b := Lib.hid (HR_b.out.ext hbz)
   replace HR_c := Lib.hid (HR_c.out.ext hbz)
   replace HX := Lib.hid (HX.out.ext hbz)
   replace HXn := Lib.hid (HXn.out.ext hbz)
   replace HXa := Lib.hid (HXa.out.ext hbz)
   replace HXb := Lib.hid (HXb.out.ext hbz)
   replace HXc := Lib.hid (HXc.out.ext hbz)
   replace HW := Lib.hid (ext_trans HW.out hbz)
   clear c_a_0 c_a_1 c_a_2 c_b_0 c_b_1 c_b_2 c_c_0 c_c_1 c_c_2 c_s_7 c_s_10
   clear hbz
   show wpList _ _ _ _ _ _
   simp only [Act.put, zzp]
   go_wp2
   exact bodyPost_ret (v := .bool false) (by simp [results, Tryz.results77, go_sem]) rfl ⟨by rw [HP.out], HW.out⟩
end Nm
end Go.Proofs.YtlbnjgnbpiidaaaGreatDoor
