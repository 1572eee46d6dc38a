/- The walk of MetricShiftsDoNotMatter. Printed by gen_lawshi.py. -/
import Derived.Test.YtilolnjbpokdnaaGreatDoorShiP
import Derived.Test.YtilolnjbpokdnaaGreatDoorDl0
namespace Go.Proofs.YtilolnjbpokdnaaGreatDoor
open Go.RowKit
namespace Nm
open _root_.Go.Proofs.YtilolnjbpokdnaaGreatDoor.Nt (RH RH.cell RH.box RH.row RH.lt RH.new RH.ext RH.fre RH.set RH.other RH.row_other store_cells Tab Tab.ext rtV RtP minus_is mWholeQ)
theorem wholeD_is (z : Int) (q : Rat) (hq : (z : Rat) = q) (h0 : -9223372036854775808 ≤ z) (h1 : z ≤ 9223372036854775807) (w : World) (ht : Tab w) : Calls Tryz.prog 27 #[.int .i64 z] w (RtP w q) := by
 subst hq; exact mWholeQ z h0 h1 w ht
set_option maxRecDepth 100000 in
set_option maxHeartbeats 16000000 in
theorem lawShi_at (l : List PX) (a : Option Addr) (c : Nat) (z : Int) (w : World) (hs : Sl w (.slice a l.length c) l.length (l.flatMap pxL)) (hsz : l.length * 16 ≤ 140737488351232) (ht : Tab w) :
  Calls Tryz.prog 6 #[.slice a l.length c, .int .i64 z] w fun e w' => e = .returned (.bool true) ∧ Below w.heap.size w w' := by
 have hdd := tmod_mil z
 obtain ⟨d, hd⟩ : ∃ y, z.tmod 1000000 = y := ⟨_, rfl⟩
 rw [hd] at hdd
 have HS := Lib.hid hs
 clear hs
 obtain ⟨n1, r1, f1, n2, r2, f2, h1, h2, hA, hD⟩ := shi_all l d hdd
 have HA := Lib.hid (And.intro h1 (And.intro h2 (And.intro hA hD)))
 clear h1 h2 hA hD
 have HTZ := Lib.hid hd
 go_enter Tryz.func6, Tryz.ntmps6
 have HT0 := Lib.hid ht
 clear ht
 have HW : Hid (Below w.heap.size w w) := Lib.hid (Below.refl _ _)
 go_wp2_with fail
 refine (cloneX_at l a c w HS.out (by omega)).mono ?_
 rintro e w1' ⟨ga, cap, rfl, hsl, hown, hbz⟩
 replace HW := Lib.hid (ext_trans HW.out hbz)
 clear hbz
 clear hd
 go_wp2
 go_loopw [6, 17] (fun _ i wr => ∃ k : Nat, k ≤ l.length ∧ i = .int .i64 (k : Int) ∧ Hid (Sl wr (.slice ga l.length cap) l.length ((mvL d k l).flatMap pxL)) ∧ Hid (0 < l.length → ∃ g, ga = some ⟨g, 0, none⟩ ∧ w.heap.size ≤ g ∧ l.length ≤ cap ∧ cap ≤ maxLen ∧ OwnX wr g (mvL d k l)) ∧ (Below w.heap.size w wr)) (fun _ i _ => l.length - (intOf i).toNat)
 case atStart => exact ⟨0, by omega, rfl, Lib.hid (by rw [mvL_zero]; exact hsl), Lib.hid (by rw [mvL_zero]; exact hown), HW.out⟩
 case round =>
  clear hsl hown
  obtain ⟨k, hk, rfl, HSL, HOW, q_HW⟩ := hrel
  clear HW
  have HW := Lib.hid q_HW
  clear q_HW
  generalize hX : wr = X at *
  clear hX
  by_cases hlt : k < l.length
  ·obtain ⟨g, rfl, hg1, hg2, hg3, hO⟩ := HOW.out (by omega)
   have hkm : k < (mvL d k l).length := by rw [mvL_length (by omega)]; exact hlt
   have e0 : X.cell? ⟨g, k * 2, none⟩ = some (.int .i64 l[k].x) := by rw [hO.at (px_get hkm).1, mvL_at hlt hkm]
   have f0 := hO.frozen (k * 2)
   have hst := hO.setx hkm (IntKind.i64.wrap (l[k].x + d))
   rw [mvL_at hlt hkm] at hst
   have hms : (mvL d k l).set k ⟨IntKind.i64.wrap (l[k].x + d), l[k].y⟩ = mvL d (k + 1) l := mvL_set hlt
   rw [hms] at hst
   generalize l[k].x = xk at e0 hst
   clear hms
   have HST := Lib.hid hst
   clear hst hO
   have hk0 : (0 : Int) ≤ (k : Int) := Int.natCast_nonneg _
   have hk1 : (k : Int) < (l.length : Int) := by omega
   have hk3 : (k : Int).toNat = k := by omega
   have hdz : z.tmod 1000000 = d := HTZ.out
   obtain ⟨xv, hxv⟩ : ∃ v, IntKind.i64.wrap (xk + d) = v := ⟨_, rfl⟩
   rw [hxv] at HST
   go_upto_region 6 with (fail)
   clear hdz hxv
   obtain ⟨w2', hX⟩ : ∃ Z9, Z9 = X.setCell ⟨g, k * 2, none⟩ (.int .i64 xv) := ⟨_, rfl⟩
   rw [← hX]
   have nO : Hid (OwnX w2' g (mvL d (k + 1) l)) := by rw [hX]; exact HST
   have nW : Hid (Below w.heap.size w w2') := by rw [hX]; exact Lib.hid (HW.out.setCell (p := ⟨g, k * 2, none⟩) hg1 (.int .i64 xv))
   clear hX HST HW HSL HOW e0 f0
   have NSL : Hid (Sl w2' (.slice (some ⟨g, 0, none⟩) l.length cap) l.length ((mvL d (k + 1) l).flatMap pxL)) := Lib.hid (by
    have h := nO.out.sl (c := cap) (by rw [mvL_length (by omega)]; exact hg2) hg3
    rw [mvL_length (by omega)] at h
    exact h)
   go_wp2
   go_roundw
   case rel => exact ⟨k + 1, by omega, by go_num, NSL, Lib.hid (fun _ => ⟨g, rfl, hg1, hg2, hg3, nO.out⟩), nW.out⟩
   case measure => simp [intOf]; omega
  ·have hkl : k = l.length := by omega
   subst hkl
   have HMV : Hid (Sl X (.slice ga l.length cap) l.length ((l.map (pxW d)).flatMap pxL)) := Lib.hid (by have h := HSL.out; rw [mvL_end (Nat.le_refl _)] at h; exact h)
   clear hlt hk HSL HOW
   go_wp2_with fail
   refine (sumP_at l a c X (HS.out.ext HW.out)).mono ?_
   rintro e w2' ⟨rfl, hbz⟩
   rw [HA.out.1.1, HA.out.1.2]
   replace HMV := Lib.hid (HMV.out.ext hbz)
   replace HW := Lib.hid (ext_trans HW.out hbz)
   clear hbz
   have hsz : (mrA (n1) r1).size = 11 := rfl
   have hsc := run_storeCells_new (P := Tryz.prog) w2' 47 #[.int .i64 0, .string ⟨#[]⟩, .string ⟨#[]⟩, .string ⟨#[]⟩, .string ⟨#[]⟩, .string ⟨#[]⟩, .string ⟨#[]⟩, .string ⟨#[]⟩, .string ⟨#[]⟩, .string ⟨#[]⟩, .string ⟨#[]⟩] (mrA (n1) r1) (mr_info _ _) rfl (mr_all _ _)
   go_upto_region 8 with (fail)
   clear hsc hsz
   refine wp_rows1 fun w3' hbz hR0 => ?_
   have le_x : w.heap.size ≤ w2'.heap.size := HW.out.size
   replace HMV := Lib.hid (HMV.out.ext hbz)
   replace HW := Lib.hid (ext_trans HW.out hbz)
   clear hbz
   have HR_x : Hid (RH w3' w2'.heap.size (mrA (n1) r1) 47) := Lib.hid hR0
   clear hR0
   generalize w2'.heap.size = b_x at *
   have hs9 := sumP_at (l.map (pxW d)) ga cap w3' (by rw [List.length_map]; exact HMV.out)
   rw [List.length_map, HA.out.2.1.1, HA.out.2.1.2] at hs9
   go_wp2_with fail
   refine hs9.mono ?_
   rintro e w4' ⟨rfl, hbz⟩
   clear hs9
   replace HR_x := Lib.hid (HR_x.out.ext hbz)
   replace HMV := Lib.hid (HMV.out.ext hbz)
   replace HW := Lib.hid (ext_trans HW.out hbz)
   clear hbz
   clear HMV
   have hsz : (mrA (n2) r2).size = 11 := rfl
   have hsc := run_storeCells_new (P := Tryz.prog) w4' 47 #[.int .i64 0, .string ⟨#[]⟩, .string ⟨#[]⟩, .string ⟨#[]⟩, .string ⟨#[]⟩, .string ⟨#[]⟩, .string ⟨#[]⟩, .string ⟨#[]⟩, .string ⟨#[]⟩, .string ⟨#[]⟩, .string ⟨#[]⟩] (mrA (n2) r2) (mr_info _ _) rfl (mr_all _ _)
   go_upto_region 9 with (fail)
   clear hsc hsz
   refine wp_rows1 fun w5' hbz hR0 => ?_
   have lt_x_y : b_x < w4'.heap.size := HR_x.out.lt
   have le_y : w.heap.size ≤ w4'.heap.size := HW.out.size
   replace HR_x := Lib.hid (HR_x.out.ext hbz)
   replace HW := Lib.hid (ext_trans HW.out hbz)
   clear hbz
   have HR_y : Hid (RH w5' w4'.heap.size (mrA (n2) r2) 47) := Lib.hid hR0
   clear hR0
   generalize w4'.heap.size = b_y at *
   by_cases e1 : f1 = 0
   ·have t1 : (f1 != 0) = false := by simpa using e1
    by_cases e2 : f2 = 0
    ·have t2 : (f2 != 0) = false := by simpa using e2
     obtain ⟨hnn, hok⟩ := HA.out.2.2.2 e1 e2
     subst hnn
     have HOK := Lib.hid hok
     clear e1 e2 hok
     go_wp2_with (first | (refine wpList_load_row rfl _ _ rfl b_x rfl _ (mrA (n1) r1) _ _ HR_x.out Tryz.underlying47 rfl (mr_info _ _) ?_))
     refine (estimateM_at n1 r1 HOK.out.ok1 w5').mono ?_
     rintro e w6' ⟨rfl, hbz⟩
     rw [HOK.out.f1]
     replace HR_x := Lib.hid (HR_x.out.ext hbz)
     replace HR_y := Lib.hid (HR_y.out.ext hbz)
     replace HW := Lib.hid (ext_trans HW.out hbz)
     clear hbz
     by_cases hL : (l.length : Int) < 2
     ·rw [if_pos hL]
      rw [rtN_no (by decide), rtD_no (by decide), nF_no (by decide), rtN_no (by decide), rtD_no (by decide)]
      go_upto_region 12 with (fail)
      refine wp_rows1 fun w7' hbz hR0 => ?_
      have lt_x_u : b_x < w6'.heap.size := HR_x.out.lt
      have lt_y_u : b_y < w6'.heap.size := HR_y.out.lt
      have le_u : w.heap.size ≤ w6'.heap.size := HW.out.size
      replace HR_x := Lib.hid (HR_x.out.ext hbz)
      replace HR_y := Lib.hid (HR_y.out.ext hbz)
      replace HW := Lib.hid (ext_trans HW.out hbz)
      clear hbz
      have HR_u : Hid (RH w7' w6'.heap.size #[.int .i64 0, .string ⟨#[]⟩, .string ⟨#[]⟩, .string ⟨#[]⟩, .string ⟨#[]⟩] 55) := Lib.hid hR0
      clear hR0
      generalize w6'.heap.size = b_u at *
      go_wp2_with (first | (refine wpList_load_row rfl _ _ rfl b_y rfl _ (mrA (n1) r2) _ _ HR_y.out Tryz.underlying47 rfl (mr_info _ _) ?_))
      refine (estimateM_at n1 r2 HOK.out.ok2 w7').mono ?_
      rintro e w8' ⟨rfl, hbz⟩
      rw [HOK.out.f2, if_pos hL]
      rw [rtN_no (by decide), rtD_no (by decide), nF_no (by decide), rtN_no (by decide), rtD_no (by decide)]
      replace HR_x := Lib.hid (HR_x.out.ext hbz)
      replace HR_y := Lib.hid (HR_y.out.ext hbz)
      replace HR_u := Lib.hid (HR_u.out.ext hbz)
      replace HW := Lib.hid (ext_trans HW.out hbz)
      clear hbz
      go_upto_region 13 with (fail)
      refine wp_rows1 fun w9' hbz hR0 => ?_
      have lt_x_v : b_x < w8'.heap.size := HR_x.out.lt
      have lt_y_v : b_y < w8'.heap.size := HR_y.out.lt
      have lt_u_v : b_u < w8'.heap.size := HR_u.out.lt
      have le_v : w.heap.size ≤ w8'.heap.size := HW.out.size
      replace HR_x := Lib.hid (HR_x.out.ext hbz)
      replace HR_y := Lib.hid (HR_y.out.ext hbz)
      replace HR_u := Lib.hid (HR_u.out.ext hbz)
      replace HW := Lib.hid (ext_trans HW.out hbz)
      clear hbz
      have HR_v : Hid (RH w9' w8'.heap.size #[.int .i64 0, .string ⟨#[]⟩, .string ⟨#[]⟩, .string ⟨#[]⟩, .string ⟨#[]⟩] 55) := Lib.hid hR0
      clear hR0
      generalize w8'.heap.size = b_v at *
      go_wp2
      go_ret
      exact ⟨by simp, HW.out⟩
     ·rw [if_neg hL]
      have hL2 : 2 ≤ (l.length : Int) := by omega
      obtain ⟨m1, hm1⟩ : ∃ y, meQ n1 r1.q = y := ⟨_, rfl⟩
      obtain ⟨m2, hm2⟩ : ∃ y, meQ n1 r2.q = y := ⟨_, rfl⟩
      obtain ⟨vq, hvq⟩ : ∃ y, veQ n1 r2.q = y := ⟨_, rfl⟩
      obtain ⟨dq, hdq⟩ : ∃ y : Rat, (d : Rat) = y := ⟨_, rfl⟩
      have HQ : Hid (meQ n1 r1.q = m1 ∧ meQ n1 r2.q = m2 ∧ veQ n1 r1.q = vq ∧ veQ n1 r2.q = vq ∧ m2 - m1 = dq ∧ Fits m1 ∧ Fits m2 ∧ (d : Rat) = dq ∧ Fits dq) := Lib.hid ⟨hm1, hm2, (HOK.out.var hL2).trans hvq, hvq, by rw [← hm1, ← hm2, ← hdq]; exact HOK.out.mean hL2, by rw [← hm1]; exact (HOK.out.fit hL2).1, by rw [← hm2]; exact (HOK.out.fit hL2).2, hdq, by rw [← hdq]; exact fits_int (by omega)⟩
      clear hm1 hm2 hvq hdq
      rw [rtN_0, rtD_0, nF_0, rtN_0, rtD_0, HQ.out.1, HQ.out.2.2.1]
      go_upto_region 12 with (fail)
      refine wp_rows1 fun w7' hbz hR0 => ?_
      have lt_x_u : b_x < w6'.heap.size := HR_x.out.lt
      have lt_y_u : b_y < w6'.heap.size := HR_y.out.lt
      have le_u : w.heap.size ≤ w6'.heap.size := HW.out.size
      replace HR_x := Lib.hid (HR_x.out.ext hbz)
      replace HR_y := Lib.hid (HR_y.out.ext hbz)
      replace HW := Lib.hid (ext_trans HW.out hbz)
      clear hbz
      have HR_u : Hid (RH w7' w6'.heap.size #[.int .i64 n1, .string (showN m1), .string (showD m1), .string (showN vq), .string (showD vq)] 55) := Lib.hid hR0
      clear hR0
      generalize w6'.heap.size = b_u at *
      go_wp2_with (first | (refine wpList_load_row rfl _ _ rfl b_y rfl _ (mrA (n1) r2) _ _ HR_y.out Tryz.underlying47 rfl (mr_info _ _) ?_))
      refine (estimateM_at n1 r2 HOK.out.ok2 w7').mono ?_
      rintro e w8' ⟨rfl, hbz⟩
      rw [HOK.out.f2, if_neg (by omega), rtN_0, rtD_0, nF_0, rtN_0, rtD_0, HQ.out.2.1, HQ.out.2.2.2.1]
      replace HR_x := Lib.hid (HR_x.out.ext hbz)
      replace HR_y := Lib.hid (HR_y.out.ext hbz)
      replace HR_u := Lib.hid (HR_u.out.ext hbz)
      replace HW := Lib.hid (ext_trans HW.out hbz)
      clear hbz
      go_upto_region 13 with (fail)
      refine wp_rows1 fun w9' hbz hR0 => ?_
      have lt_x_v : b_x < w8'.heap.size := HR_x.out.lt
      have lt_y_v : b_y < w8'.heap.size := HR_y.out.lt
      have lt_u_v : b_u < w8'.heap.size := HR_u.out.lt
      have le_v : w.heap.size ≤ w8'.heap.size := HW.out.size
      replace HR_x := Lib.hid (HR_x.out.ext hbz)
      replace HR_y := Lib.hid (HR_y.out.ext hbz)
      replace HR_u := Lib.hid (HR_u.out.ext hbz)
      replace HW := Lib.hid (ext_trans HW.out hbz)
      clear hbz
      have HR_v : Hid (RH w9' w8'.heap.size #[.int .i64 n1, .string (showN m2), .string (showD m2), .string (showN vq), .string (showD vq)] 55) := Lib.hid hR0
      clear hR0
      generalize w8'.heap.size = b_v at *
      obtain ⟨c_u_0, c_u_1, c_u_2, c_u_3, c_u_4⟩ := zs5 HR_u.out
      obtain ⟨c_v_0, c_v_1, c_v_2, c_v_3, c_v_4⟩ := zs5 HR_v.out
      go_wp2_with fail
      refine (minus_is m2 m1 dq HQ.out.2.2.2.2.1 HQ.out.2.2.2.2.2.2.1 HQ.out.2.2.2.2.2.1 HQ.out.2.2.2.2.2.2.2.2 w9' (HT0.out.ext HW.out)).mono ?_
      rintro e w10' ⟨rfl, hbz⟩
      replace HR_x := Lib.hid (HR_x.out.ext hbz)
      replace HR_y := Lib.hid (HR_y.out.ext hbz)
      replace HR_u := Lib.hid (HR_u.out.ext hbz)
      replace HR_v := Lib.hid (HR_v.out.ext hbz)
      replace HW := Lib.hid (ext_trans HW.out hbz)
      clear c_u_0 c_u_1 c_u_2 c_u_3 c_u_4 c_v_0 c_v_1 c_v_2 c_v_3 c_v_4
      clear hbz
      have hdz : z.tmod 1000000 = d := HTZ.out
      go_wp2_with fail
      refine (wholeD_is d dq HQ.out.2.2.2.2.2.2.2.1 (by omega) (by omega) w10' (HT0.out.ext HW.out)).mono ?_
      rintro e w11' ⟨rfl, hbz⟩
      replace HR_x := Lib.hid (HR_x.out.ext hbz)
      replace HR_y := Lib.hid (HR_y.out.ext hbz)
      replace HR_u := Lib.hid (HR_u.out.ext hbz)
      replace HR_v := Lib.hid (HR_v.out.ext hbz)
      replace HW := Lib.hid (ext_trans HW.out hbz)
      clear hbz
      go_wp2
      go_ret
      exact ⟨by simp, HW.out⟩
    ·have t2 : (f2 != 0) = true := by simpa using e2
     have t3 : (f1 != f2) = true := by rw [e1]; simp; exact fun h => e2 h.symm
     clear e1 e2 HA
     go_wp2
     go_ret
     exact ⟨by simp, HW.out⟩
   ·have t1 : (f1 != 0) = true := by simpa using e1
    by_cases e12 : f1 = f2
    ·obtain ⟨rfl, rfl⟩ := HA.out.2.2.1 e1 (by rw [← e12]; exact e1)
     subst e12
     have t3 : (f1 != f1) = false := by simp
     clear e1 HA
     obtain ⟨c_x_0, c_x_1, c_x_2, c_x_3, c_x_4, c_x_5, c_x_6, c_x_7, c_x_8, c_x_9, c_x_10⟩ := zs11 HR_x.out
     obtain ⟨c_y_0, c_y_1, c_y_2, c_y_3, c_y_4, c_y_5, c_y_6, c_y_7, c_y_8, c_y_9, c_y_10⟩ := zs11 HR_y.out
     go_wp2
     go_ret
     exact ⟨by simp, HW.out⟩
    ·have t3 : (f1 != f2) = true := by simpa using e12
     clear e1 e12 HA
     go_wp2
     go_ret
     exact ⟨by simp, HW.out⟩
end Nm
end Go.Proofs.YtilolnjbpokdnaaGreatDoor
