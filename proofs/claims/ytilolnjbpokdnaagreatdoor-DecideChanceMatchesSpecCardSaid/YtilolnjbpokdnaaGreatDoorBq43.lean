/- evidence and Evidence of the reference, Evidence of the program: the same texts. Printed by gen_revid.py. Plain: the chances of a test are bounded by its miss, and grow with the pairs. Plain: the chances summed place by place, as the reference does it; how long these numbers are. No program stands in it. -/
import Derived.Test.YtilolnjbpokdnaaGreatDoorBq37
import Derived.Test.YtilolnjbpokdnaaGreatDoorBq41
import Derived.Test.YtilolnjbpokdnaaGreatDoorBq42
import Derived.Test.YtilolnjbpokdnaaGreatDoorBq38
import Derived.Test.YtilolnjbpokdnaaGreatDoorBq40
import Derived.Test.YtilolnjbpokdnaaGreatDoorBq30
namespace Go.Proofs.YtilolnjbpokdnaaGreatDoor
open Go.RowKit
namespace Nm
theorem evR_ln {d : Int} {bets up down : Nat} (h1 : 1 ≤ bets) (hb : bets ≤ 5) (hu : up ≤ 60) (hd : down ≤ 60) : Ln 2700 1300 (evR d bets up down) := by
 have a := side_ln h1 hb hu hd
 have b := side_ln h1 hb hd hu
 unfold evR
 split
 ·exact a.mono (by omega) (by omega)
 ·split
  ·exact b.mono (by omega) (by omega)
  ·exact ((a.add b).div (Ln.nat (n := 2) (a := 1) (by decide)) (by decide)).mono (by omega) (by omega)
theorem evR_fits {d : Int} {bets up down : Nat} (h1 : 1 ≤ bets) (hb : bets ≤ 5) (hu : up ≤ 60) (hd : down ≤ 60) : Fits (evR d bets up down) := (evR_ln h1 hb hu hd).fits (by omega) (by omega)
/-- right numbers of pairs -/
def evOk (up down : Int) : Prop := 0 ≤ up ∧ up ≤ 60 ∧ 0 ≤ down ∧ down ≤ 60 ∧ up + down ≤ 60
instance (up down : Int) : Decidable (evOk up down) := by unfold evOk; exact inferInstance
theorem test_ok {d k : Int} {n m : ByteArray} (h : testF d k n m = 0) : 1 ≤ d ∧ d ≤ 3 ∧ 1 ≤ k ∧ k ≤ 5 ∧ missF n m = 0 := by
 unfold testF at h
 by_cases h1 : 1 ≤ d ∧ d ≤ 3
 ·rw [if_neg (fun h => h h1)] at h
  by_cases h2 : 1 ≤ k ∧ k ≤ 5
  ·rw [if_neg (fun h => h h2)] at h
   exact ⟨h1.1, h1.2, h2.1, h2.2, h⟩
  ·rw [if_pos h2] at h; cases h
 ·rw [if_pos h1] at h; cases h
end Nm
namespace Nt
open _root_.Go.Proofs.YtilolnjbpokdnaaGreatDoor.Nm (showN showD outN outD outF out_fits Fits sideR evR evR_fits side_ln evOk testF test_ok AnsPost Ln readTest_at evidence_at ev_small ratio_at evQ_real evQ rQ betA)
theorem side_is (a b c : Int) (bets up down : Nat) (q : Rat) (hq : sideR bets up down = q) (ha : a = (bets : Int)) (hb : b = (up : Int)) (hc : c = (down : Int)) (h1 : 1 ≤ bets) (h5 : bets ≤ 5) (hu : up ≤ 60) (hd : down ≤ 60) (w : World) (ht : Tab w) :
  Calls Tryz.prog 178 #[.int .i64 a, .int .i64 b, .int .i64 c] w (RtP w q) := by subst ha; subst hb; subst hc; subst hq; exact side_at bets up down h1 h5 hu hd w ht
set_option maxRecDepth 100000 in
set_option maxHeartbeats 8000000 in
theorem evid1 (bets up down : Nat) (n m : ByteArray) (h1 : 1 ≤ bets) (h5 : bets ≤ 5) (hu : up ≤ 60) (hd : down ≤ 60) (w : World) (ht : Tab w) : Calls Tryz.prog 156 #[.agg #[.int .i64 1, .int .i64 (bets : Int), .string n, .string m], .int .i64 (up : Int), .int .i64 (down : Int)] w (RtP w (evR 1 bets up down)) := by
 obtain ⟨Q, hq⟩ : ∃ Q, evR 1 bets up down = Q := ⟨_, rfl⟩
 have HFq : Hid (Fits Q) := Lib.hid (hq ▸ evR_fits h1 h5 hu hd)
 have HQ : Hid (sideR bets up down = Q) := Lib.hid (by rw [← hq]; rfl)
 have HF1 : Hid (Fits (sideR bets up down)) := Lib.hid ((side_ln h1 h5 hu hd).fits (by omega) (by omega))
 have HF2 : Hid (Fits (sideR bets down up)) := Lib.hid ((side_ln h1 h5 hd hu).fits (by omega) (by omega))
 have HF3 : Hid (Fits (sideR bets up down + sideR bets down up)) := Lib.hid (((side_ln h1 h5 hu hd).add (side_ln h1 h5 hd hu)).fits (by omega) (by omega))
 rw [hq]
 clear hq
 go_enter Tryz.func156, Tryz.ntmps156
 have HT0 := Lib.hid ht
 clear ht
 go_upto_region 1 with (fail)
 refine wp_box2r fun w1' hsz hbW hA0 hC hF => ?_
 clear hsz
 have HB_t := Lib.hid hA0
 have HB_res := Lib.hid hC
 have HF_res := Lib.hid hF
 have HW := Lib.hid hbW
 clear hbW hA0 hC hF
 have c_t_0 : w1'.cell? ⟨w.heap.size, 0, none⟩ = some (.int .i64 1) := HB_t.out.2 0
 have c_t_1 : w1'.cell? ⟨w.heap.size, 1, none⟩ = some (.int .i64 (bets : Int)) := HB_t.out.2 1
 have c_t_2 : w1'.cell? ⟨w.heap.size, 2, none⟩ = some (.string n) := HB_t.out.2 2
 have c_t_3 : w1'.cell? ⟨w.heap.size, 3, none⟩ = some (.string m) := HB_t.out.2 3
 go_wp2_with fail
 refine (side_is _ _ _ bets up down _ HQ.out rfl rfl rfl h1 h5 hu hd w1' (HT0.out.ext HW.out)).mono ?_
 rintro e w2' ⟨rfl, hbz⟩
 replace HB_t := Lib.hid (HB_t.out.ext hbz)
 replace HF_res := Lib.hid (HF_res.out.ext HB_res.out hbz)
 replace HB_res := Lib.hid (HB_res.out.ext hbz)
 replace HW := Lib.hid (ext_trans HW.out hbz)
 clear c_t_0 c_t_1 c_t_2 c_t_3
 clear hbz
 have c_res_0 : w2'.cell? ⟨w.heap.size + 1, 0, none⟩ = some (.string ⟨#[]⟩) := HB_res.out.2 0
 have c_res_1 : w2'.cell? ⟨w.heap.size + 1, 1, none⟩ = some (.string ⟨#[]⟩) := HB_res.out.2 1
 have f_res_0 := HF_res.out 0
 have f_res_1 := HF_res.out 1
 have HR := Lib.hid (res2s (.string (showN (Q))) (.string (showD (Q))) HB_res.out HW.out (show w.heap.size ≤ w.heap.size + 1 by omega))
 obtain ⟨hbF, z0, z1⟩ := id HR.out
 clear hbF
 go_wp2
 exact bodyPost_ret (v := rtV Q) (by simp [results, Tryz.results156, go_sem, z0, z1]) rfl ⟨rfl, HR.out.1⟩
set_option maxRecDepth 100000 in
set_option maxHeartbeats 8000000 in
theorem evid2 (bets up down : Nat) (n m : ByteArray) (h1 : 1 ≤ bets) (h5 : bets ≤ 5) (hu : up ≤ 60) (hd : down ≤ 60) (w : World) (ht : Tab w) : Calls Tryz.prog 156 #[.agg #[.int .i64 2, .int .i64 (bets : Int), .string n, .string m], .int .i64 (up : Int), .int .i64 (down : Int)] w (RtP w (evR 2 bets up down)) := by
 obtain ⟨Q, hq⟩ : ∃ Q, evR 2 bets up down = Q := ⟨_, rfl⟩
 have HFq : Hid (Fits Q) := Lib.hid (hq ▸ evR_fits h1 h5 hu hd)
 have HQ : Hid (sideR bets down up = Q) := Lib.hid (by rw [← hq]; rfl)
 have HF1 : Hid (Fits (sideR bets up down)) := Lib.hid ((side_ln h1 h5 hu hd).fits (by omega) (by omega))
 have HF2 : Hid (Fits (sideR bets down up)) := Lib.hid ((side_ln h1 h5 hd hu).fits (by omega) (by omega))
 have HF3 : Hid (Fits (sideR bets up down + sideR bets down up)) := Lib.hid (((side_ln h1 h5 hu hd).add (side_ln h1 h5 hd hu)).fits (by omega) (by omega))
 rw [hq]
 clear hq
 go_enter Tryz.func156, Tryz.ntmps156
 have HT0 := Lib.hid ht
 clear ht
 go_upto_region 1 with (fail)
 refine wp_box2r fun w1' hsz hbW hA0 hC hF => ?_
 clear hsz
 have HB_t := Lib.hid hA0
 have HB_res := Lib.hid hC
 have HF_res := Lib.hid hF
 have HW := Lib.hid hbW
 clear hbW hA0 hC hF
 have c_t_0 : w1'.cell? ⟨w.heap.size, 0, none⟩ = some (.int .i64 2) := HB_t.out.2 0
 have c_t_1 : w1'.cell? ⟨w.heap.size, 1, none⟩ = some (.int .i64 (bets : Int)) := HB_t.out.2 1
 have c_t_2 : w1'.cell? ⟨w.heap.size, 2, none⟩ = some (.string n) := HB_t.out.2 2
 have c_t_3 : w1'.cell? ⟨w.heap.size, 3, none⟩ = some (.string m) := HB_t.out.2 3
 go_wp2_with fail
 refine (side_is _ _ _ bets down up _ HQ.out rfl rfl rfl h1 h5 hd hu w1' (HT0.out.ext HW.out)).mono ?_
 rintro e w2' ⟨rfl, hbz⟩
 replace HB_t := Lib.hid (HB_t.out.ext hbz)
 replace HF_res := Lib.hid (HF_res.out.ext HB_res.out hbz)
 replace HB_res := Lib.hid (HB_res.out.ext hbz)
 replace HW := Lib.hid (ext_trans HW.out hbz)
 clear c_t_0 c_t_1 c_t_2 c_t_3
 clear hbz
 have c_res_0 : w2'.cell? ⟨w.heap.size + 1, 0, none⟩ = some (.string ⟨#[]⟩) := HB_res.out.2 0
 have c_res_1 : w2'.cell? ⟨w.heap.size + 1, 1, none⟩ = some (.string ⟨#[]⟩) := HB_res.out.2 1
 have f_res_0 := HF_res.out 0
 have f_res_1 := HF_res.out 1
 have HR := Lib.hid (res2s (.string (showN (Q))) (.string (showD (Q))) HB_res.out HW.out (show w.heap.size ≤ w.heap.size + 1 by omega))
 obtain ⟨hbF, z0, z1⟩ := id HR.out
 clear hbF
 go_wp2
 exact bodyPost_ret (v := rtV Q) (by simp [results, Tryz.results156, go_sem, z0, z1]) rfl ⟨rfl, HR.out.1⟩
set_option maxRecDepth 100000 in
set_option maxHeartbeats 8000000 in
theorem evid3 (bets up down : Nat) (n m : ByteArray) (h1 : 1 ≤ bets) (h5 : bets ≤ 5) (hu : up ≤ 60) (hd : down ≤ 60) (w : World) (ht : Tab w) : Calls Tryz.prog 156 #[.agg #[.int .i64 3, .int .i64 (bets : Int), .string n, .string m], .int .i64 (up : Int), .int .i64 (down : Int)] w (RtP w (evR 3 bets up down)) := by
 obtain ⟨Q, hq⟩ : ∃ Q, evR 3 bets up down = Q := ⟨_, rfl⟩
 have HFq : Hid (Fits Q) := Lib.hid (hq ▸ evR_fits h1 h5 hu hd)
 have HQ : Hid ((sideR bets up down + sideR bets down up) / 2 = Q) := Lib.hid (by rw [← hq]; rfl)
 have HF1 : Hid (Fits (sideR bets up down)) := Lib.hid ((side_ln h1 h5 hu hd).fits (by omega) (by omega))
 have HF2 : Hid (Fits (sideR bets down up)) := Lib.hid ((side_ln h1 h5 hd hu).fits (by omega) (by omega))
 have HF3 : Hid (Fits (sideR bets up down + sideR bets down up)) := Lib.hid (((side_ln h1 h5 hu hd).add (side_ln h1 h5 hd hu)).fits (by omega) (by omega))
 rw [hq]
 clear hq
 go_enter Tryz.func156, Tryz.ntmps156
 have HT0 := Lib.hid ht
 clear ht
 go_upto_region 1 with (fail)
 refine wp_box2r fun w1' hsz hbW hA0 hC hF => ?_
 clear hsz
 have HB_t := Lib.hid hA0
 have HB_res := Lib.hid hC
 have HF_res := Lib.hid hF
 have HW := Lib.hid hbW
 clear hbW hA0 hC hF
 have c_t_0 : w1'.cell? ⟨w.heap.size, 0, none⟩ = some (.int .i64 3) := HB_t.out.2 0
 have c_t_1 : w1'.cell? ⟨w.heap.size, 1, none⟩ = some (.int .i64 (bets : Int)) := HB_t.out.2 1
 have c_t_2 : w1'.cell? ⟨w.heap.size, 2, none⟩ = some (.string n) := HB_t.out.2 2
 have c_t_3 : w1'.cell? ⟨w.heap.size, 3, none⟩ = some (.string m) := HB_t.out.2 3
 go_upto_region 6 with (fail)
 refine Grow.wp_region_grow 13 [TP.eq (.pointer (some ⟨w.heap.size, 1, none⟩)), TP.eq (.int .i64 (bets : Int)), TP.eq (.int .i64 (up : Int)), TP.eq (.int .i64 (down : Int)), TP.eq (rtV (sideR bets up down)), TP.eq (.pointer (some ⟨w.heap.size, 1, none⟩)), TP.eq (.int .i64 (bets : Int)), TP.eq (.int .i64 (down : Int)), TP.eq (.int .i64 (up : Int)), TP.eq (rtV (sideR bets down up)), TP.eq (rtV (sideR bets up down + sideR bets down up)), TP.eq (rtV 2), TP.eq (rtV Q)] [[], [0], [], [], [1, 2, 3], [], [5], [], [], [6, 7, 8], [4, 9], [], [10, 11]] (by kernel_rfl) (by kernel_rfl) ⟨?o0z, ?o1z, ?o2z, ?o3z, ?o4z, ?o5z, ?o6z, ?o7z, ?o8z, ?o9z, ?o10z, ?o11z, ?o12z, trivial⟩ ?_
 case o0z =>
  intro w' hb
  show wpList _ _ _ _ _ _
  go_wp2
  exact ⟨rfl, Below.refl _ _, rfl⟩
 case o1z =>
  intro w' hb v1 hv1
  obtain rfl : v1 = _ := hv1
  have c_t_1' := zzc hb c_t_1
  show wpList _ _ _ _ _ _
  simp only [Grow.dstOf, zz1, zz3, zz4, Act.put, zz5, zz6, zz7]
  go_wp2
  exact ⟨rfl, Below.refl _ _, rfl⟩
 case o2z =>
  intro w' hb
  show wpList _ _ _ _ _ _
  go_wp2
  exact ⟨rfl, Below.refl _ _, rfl⟩
 case o3z =>
  intro w' hb
  show wpList _ _ _ _ _ _
  go_wp2
  exact ⟨rfl, Below.refl _ _, rfl⟩
 case o4z =>
  intro w' hb v1 hv1 v2 hv2 v3 hv3
  obtain rfl : v1 = _ := hv1
  obtain rfl : v2 = _ := hv2
  obtain rfl : v3 = _ := hv3
  show wpList _ _ _ _ _ _
  simp only [Grow.dstOf, zz1, zz2, zz3, zz4, Act.put, zz5, zz6, zz7]
  go_wp2_with fail
  refine (side_is _ _ _ bets up down _ rfl rfl rfl rfl h1 h5 hu hd w' (HT0.out.ext (ext_trans HW.out hb))).mono ?_
  rintro e wz ⟨rfl, hbz⟩
  go_wp2
  exact ⟨rfl, hbz, rfl⟩
 case o5z =>
  intro w' hb
  show wpList _ _ _ _ _ _
  go_wp2
  exact ⟨rfl, Below.refl _ _, rfl⟩
 case o6z =>
  intro w' hb v1 hv1
  obtain rfl : v1 = _ := hv1
  have c_t_1' := zzc hb c_t_1
  show wpList _ _ _ _ _ _
  simp only [Grow.dstOf, zz1, zz2, zz3, zz4, Act.put, zz5, zz6, zz7]
  go_wp2
  exact ⟨rfl, Below.refl _ _, rfl⟩
 case o7z =>
  intro w' hb
  show wpList _ _ _ _ _ _
  go_wp2
  exact ⟨rfl, Below.refl _ _, rfl⟩
 case o8z =>
  intro w' hb
  show wpList _ _ _ _ _ _
  go_wp2
  exact ⟨rfl, Below.refl _ _, rfl⟩
 case o9z =>
  intro w' hb v1 hv1 v2 hv2 v3 hv3
  obtain rfl : v1 = _ := hv1
  obtain rfl : v2 = _ := hv2
  obtain rfl : v3 = _ := hv3
  show wpList _ _ _ _ _ _
  simp only [Grow.dstOf, zz1, zz2, zz3, zz4, Act.put, zz5, zz6, zz7]
  go_wp2_with fail
  refine (side_is _ _ _ bets down up _ rfl rfl rfl rfl h1 h5 hd hu w' (HT0.out.ext (ext_trans HW.out hb))).mono ?_
  rintro e wz ⟨rfl, hbz⟩
  go_wp2
  exact ⟨rfl, hbz, rfl⟩
 case o10z =>
  intro w' hb v1 hv1 v2 hv2
  obtain rfl : v1 = _ := hv1
  obtain rfl : v2 = _ := hv2
  show wpList _ _ _ _ _ _
  simp only [Grow.dstOf, zz1, zz2, zz3, zz4, Act.put, zz5, zz6, zz7]
  go_wp2_with fail
  refine (plus_is (sideR bets up down) (sideR bets down up) _ rfl HF1.out HF2.out HF3.out w' (HT0.out.ext (ext_trans HW.out hb))).mono ?_
  rintro e wz ⟨rfl, hbz⟩
  go_wp2
  exact ⟨rfl, hbz, rfl⟩
 case o11z =>
  intro w' hb
  show wpList _ _ _ _ _ _
  go_wp2_with fail
  refine (whole2 w' (HT0.out.ext (ext_trans HW.out hb))).mono ?_
  rintro e wz ⟨rfl, hbz⟩
  go_wp2
  exact ⟨rfl, hbz, rfl⟩
 case o12z =>
  intro w' hb v1 hv1 v2 hv2
  obtain rfl : v1 = _ := hv1
  obtain rfl : v2 = _ := hv2
  show wpList _ _ _ _ _ _
  simp only [Grow.dstOf, zz1, zz2, zz3, zz4, Act.put, zz5, zz6, zz7]
  go_wp2_with fail
  refine (over_is (sideR bets up down + sideR bets down up) 2 Q HQ.out HF3.out fits2 (by decide) HFq.out w' (HT0.out.ext (ext_trans HW.out hb))).mono ?_
  rintro e wz ⟨rfl, hbz⟩
  go_wp2
  exact ⟨rfl, hbz, rfl⟩
 intro w2' hbz u0 hu0 u1 hu1 u2 hu2 u3 hu3 u4 hu4 u5 hu5 u6 hu6 u7 hu7 u8 hu8 u9 hu9 u10 hu10 u11 hu11 u12 hu12
 obtain rfl : u12 = _ := hu12
 clear hu0 hu1 hu2 hu3 hu4 hu5 hu6 hu7 hu8 hu9 hu10 hu11
 replace HB_t := Lib.hid (HB_t.out.ext hbz)
 replace HF_res := Lib.hid (HF_res.out.ext HB_res.out hbz)
 replace HB_res := Lib.hid (HB_res.out.ext hbz)
 replace HW := Lib.hid (ext_trans HW.out hbz)
 clear c_t_0 c_t_1 c_t_2 c_t_3
 clear hbz
 show wpList _ _ _ _ _ _
 simp only [Act.put, zz5, zz6, zz7]
 have c_res_0 : w2'.cell? ⟨w.heap.size + 1, 0, none⟩ = some (.string ⟨#[]⟩) := HB_res.out.2 0
 have c_res_1 : w2'.cell? ⟨w.heap.size + 1, 1, none⟩ = some (.string ⟨#[]⟩) := HB_res.out.2 1
 have f_res_0 := HF_res.out 0
 have f_res_1 := HF_res.out 1
 have HR := Lib.hid (res2s (.string (showN (Q))) (.string (showD (Q))) HB_res.out HW.out (show w.heap.size ≤ w.heap.size + 1 by omega))
 obtain ⟨hbF, z0, z1⟩ := id HR.out
 clear hbF
 go_wp2
 exact bodyPost_ret (v := rtV Q) (by simp [results, Tryz.results156, go_sem, z0, z1]) rfl ⟨rfl, HR.out.1⟩
theorem refEvid_at (d : Int) (d1 : 1 ≤ d) (d3 : d ≤ 3) (bets up down : Nat) (n m : ByteArray) (h1 : 1 ≤ bets) (h5 : bets ≤ 5) (hu : up ≤ 60) (hd : down ≤ 60) (w : World) (ht : Tab w) : Calls Tryz.prog 156 #[.agg #[.int .i64 d, .int .i64 (bets : Int), .string n, .string m], .int .i64 (up : Int), .int .i64 (down : Int)] w (RtP w (evR d bets up down)) := by
 obtain rfl | rfl | rfl : d = 1 ∨ d = 2 ∨ d = 3 := by omega
 ·exact evid1 bets up down n m h1 h5 hu hd w ht
 ·exact evid2 bets up down n m h1 h5 hu hd w ht
 ·exact evid3 bets up down n m h1 h5 hu hd w ht
theorem refEvid_is (d k z y : Int) (bets up down : Nat) (hk : k = (bets : Int)) (hz : z = (up : Int)) (hy : y = (down : Int)) (d1 : 1 ≤ d) (d3 : d ≤ 3) (n m : ByteArray) (h1 : 1 ≤ bets) (h5 : bets ≤ 5) (hu : up ≤ 60) (hd : down ≤ 60) (w : World) (ht : Tab w) : Calls Tryz.prog 156 #[.agg #[.int .i64 d, .int .i64 k, .string n, .string m], .int .i64 z, .int .i64 y] w (RtP w (evR d bets up down)) := by
 subst hk; subst hz; subst hy; exact refEvid_at d d1 d3 bets up down n m h1 h5 hu hd w ht
end Nt
end Go.Proofs.YtilolnjbpokdnaaGreatDoor
namespace Go.Proofs.YtilolnjbpokdnaaGreatDoor
namespace Ch
open _root_.Go.Proofs.YtilolnjbpokdnaaGreatDoor.Nm
theorem unit_is : unitQ * 1000000 = 1 := by
  unfold unitQ
  have h : ((1000000 : Int) : Rat) = 1000000 := rfl
  rw [h]; grind
theorem many_add (a b : Nat) : many a + many b = many (a + b) := by
  unfold many
  rw [Rat.intCast_natCast, Rat.intCast_natCast, Rat.intCast_natCast, Rat.natCast_add]; grind
theorem many_all : many 1000000 = 1 := by
  unfold many
  have h : (((1000000 : Nat) : Int) : Rat) = 1000000 := rfl
  rw [h]
  have := unit_is
  grind
theorem many_sum {z o : Nat} (hz : z ≤ 1000) (ho : o ≤ 1000) : many (upN z o) + many (downN z o) + many (evenN z o) = 1 := by
  have h := even_int hz ho
  rw [many_add, many_add, ← many_all]
  congr 1
  unfold evenN; omega
theorem chQ_fits (d : Int) (bets : Nat) (q : Rat) {n z o k : Nat} (hn : n ≤ 8) (hk : k ≤ 8) (hz : z ≤ 1000) (ho : o ≤ 1000) : Fits (chQ d bets q n z o k) := by
  have h := even_int hz ho
  have h3 : evenN z o ≤ 1000000 := by unfold evenN; omega
  have hf := (ch_fit (dec := decP d bets q) (many_fit (n := upN z o) (by omega)) (many_fit (n := downN z o) (by omega)) (many_fit h3) hn k).2
  obtain ⟨b1, b2⟩ := hf.bound
  have e1 : 1000000 ^ k ≤ 10 ^ 48 := Nat.le_trans (Nat.pow_le_pow_right (by decide) hk) (by decide)
  have e2 : BB ^ k ≤ 10 ^ 90 := Nat.le_trans (Nat.pow_le_pow_right (by decide) hk) (by decide)
  exact Ln.fits (a := 90) (b := 48) ⟨Nat.le_trans b1 e2, Nat.le_trans b2 e1⟩ (by omega) (by omega)
/-- what Chance gives for right arguments -/
theorem chan_right {d k : Int} {n m : ByteArray} {p z o : Int} (h : chanF d k n m p z o = 0) : testF d k n m = 0 ∧ chR p z o := by
  unfold chanF at h
  by_cases ht : testF d k n m = 0
  · refine ⟨ht, ?_⟩
    rw [if_neg (fun h' => h' ht)] at h
    by_cases hr : chR p z o
    · exact hr
    · rw [if_neg hr] at h; cases h
  · rw [if_pos ht] at h; exact absurd h ht
theorem chT_fits {d k : Int} {n m : ByteArray} {p z o : Int} (h : chR p z o) : Fits (chT d k n m p z o) := by
  unfold chR at h
  exact chQ_fits _ _ _ (by omega) (by omega) (by omega) (by omega)
theorem chan_is {d : Int} {kn : Nat} {q : Rat} (hq : Fits q) (ht : testF d (kn : Int) (showN q) (showD q) = 0) {p z o : Nat} (hp : p ≤ 8) (hz : z ≤ 1000) (ho : o ≤ 1000) :
    chanN d (kn : Int) (showN q) (showD q) (p : Int) (z : Int) (o : Int) = showN (chQ d kn q⁻¹ p z o p) ∧ chanD d (kn : Int) (showN q) (showD q) (p : Int) (z : Int) (o : Int) = showD (chQ d kn q⁻¹ p z o p) ∧ chanF d (kn : Int) (showN q) (showD q) (p : Int) (z : Int) (o : Int) = 0 := by
  have hr : chR (p : Int) (z : Int) (o : Int) := by unfold chR; omega
  have e : chT d (kn : Int) (showN q) (showD q) (p : Int) (z : Int) (o : Int) = chQ d kn q⁻¹ p z o p := by unfold chT; rw [(back hq).2]; rfl
  have hf := out_fits (chT_fits (d := d) (k := (kn : Int)) (n := showN q) (m := showD q) hr)
  rw [e] at hf
  unfold chanN chanD chanF
  simp only [ht, ne_eq, not_true_eq_false, if_false, hr, if_true, e]
  exact hf
end Ch
end Go.Proofs.YtilolnjbpokdnaaGreatDoor
namespace Go.Proofs.YtilolnjbpokdnaaGreatDoor
namespace Ch
open _root_.Go.Proofs.YtilolnjbpokdnaaGreatDoor.Nm
/-- the sum of one row up to a place, and of the rows before -/
def rowS (g : Pt → Rat) (x y : Nat) : Rat := sumL ((List.range y).map fun z => g (x, z))
def gridS (g : Pt → Rat) (n x : Nat) : Rat := sumL ((List.range x).map fun z => rowS g z (n + 1))
theorem rowS_zero (g : Pt → Rat) (x : Nat) : rowS g x 0 = 0 := rfl
theorem gridS_zero (g : Pt → Rat) (n : Nat) : gridS g n 0 = 0 := rfl
theorem rowS_step (g : Pt → Rat) (x y : Nat) : rowS g x (y + 1) = rowS g x y + g (x, y) := by
  unfold rowS
  rw [List.range_succ, List.map_append, sumL_append]
  simp [sumL, Rat.add_zero]
theorem gridS_step (g : Pt → Rat) (n x : Nat) : gridS g n (x + 1) = gridS g n x + rowS g x (n + 1) := by
  unfold gridS
  rw [List.range_succ, List.map_append, sumL_append]
  simp [sumL, Rat.add_zero]
theorem gridS_all (g : Pt → Rat) (n : Nat) : gridS g n (n + 1) = sumL ((grid n).map g) := by
  unfold gridS grid
  rw [sumL_flat]
  congr 1
  refine List.map_congr_left fun x _ => ?_
  unfold rowS
  rw [List.map_map]; rfl
/-- what is decided within so many pairs -/
def decN (dec : Pt → Bool) (n : Nat) (t : Pt) : Bool := decide (t.1 + t.2 ≤ n) && dec t
/-- what a place gives to what is decided -/
def gv (dec : Pt → Bool) (u d e : Rat) (f : Pt → Rat) (t : Pt) : Rat := if dec t then arr u d e f t else 0
theorem arr_far {u d e : Rat} {f : Pt → Rat} {k n : Nat} (hk : k < n) (hf : ∀ a : Pt, k < a.1 + a.2 → f a = 0) {t : Pt} (ht : n < t.1 + t.2) : arr u d e f t = 0 := by
  unfold arr
  rw [hf t (by omega), Rat.zero_mul]
  have h1 : (if 0 < t.1 then f (t.1 - 1, t.2) * u else 0) = 0 := by
    by_cases h : 0 < t.1
    · rw [if_pos h, hf (t.1 - 1, t.2) (by simp only; omega), Rat.zero_mul]
    · rw [if_neg h]
  have h2 : (if 0 < t.2 then f (t.1, t.2 - 1) * d else 0) = 0 := by
    by_cases h : 0 < t.2
    · rw [if_pos h, hf (t.1, t.2 - 1) (by simp only; omega), Rat.zero_mul]
    · rw [if_neg h]
  rw [h1, h2, Rat.add_zero, Rat.add_zero]
theorem ch_ref {dec : Pt → Bool} {u d e : Rat} {n : Nat} (k : Nat) (hk : k < n) :
    (∀ t, t.1 ≤ n → t.2 ≤ n → chF dec u d e n (k + 1) t = nxG (decN dec n) u d e (chF dec u d e n k) t) ∧ chS dec u d e n (k + 1) = chS dec u d e n k + gridS (gv (decN dec n) u d e (chF dec u d e n k)) n (n + 1) := by
  obtain ⟨h1, h2⟩ := ch_grid (dec := dec) (u := u) (d := d) (e := e) k hk
  have hsup := (ch_bound (dec := dec) (u := u) (d := d) (e := e) (n := n) k (by omega)).2.1
  have hfar : ∀ t : Pt, n < t.1 + t.2 → arr u d e (chF dec u d e n k) t = 0 := fun t ht => arr_far hk hsup ht
  constructor
  · intro t ht1 ht2
    rw [h1 t ht1 ht2]
    unfold nxG decN
    by_cases hs : t.1 + t.2 ≤ n
    · simp only [decide_eq_true hs, Bool.true_and]
    · rw [hfar t (by omega)]; simp
  · rw [h2, gridS_all]
    congr 1
    unfold moG
    congr 1
    refine List.map_congr_left fun t _ => ?_
    unfold gv decN
    by_cases hs : t.1 + t.2 ≤ n
    · simp only [decide_eq_true hs, Bool.true_and]
    · rw [hfar t (by omega)]; simp
/-- a sum of c parts of the round k -/
def T (k c : Nat) (q : Rat) : Prop := Fit (1000000 ^ (k + 1)) (BB ^ k * 1000000 * c) q
theorem T.zero (k c : Nat) : T k c 0 := Fit.zero (Nat.pos_iff_ne_zero.1 (Nat.pow_pos (by decide))) _
theorem T.mono {k c c' : Nat} {q : Rat} (h : T k c q) (hc : c ≤ c') : T k c' q := Fit.mono h (Nat.mul_le_mul_left _ hc)
theorem T.add {k c c' : Nat} {p q : Rat} (h : T k c p) (h' : T k c' q) : T k (c + c') (p + q) := by
  have := Fit.add h h'
  rw [← Nat.mul_add] at this
  exact this
theorem T.mul {k : Nat} {p q : Rat} (h : Fit (1000000 ^ k) (BB ^ k) p) (h' : Fit 1000000 1000000 q) : T k 1 (p * q) := by
  have := Fit.mul h h'
  unfold T
  rw [Nat.mul_one, Nat.pow_succ]
  exact this
theorem T.up {k : Nat} {p : Rat} (h : Fit (1000000 ^ k) (BB ^ k) p) : T k 1 p := by
  have := Fit.scale h (c := 1000000) (by decide)
  unfold T
  rw [Nat.mul_one, Nat.pow_succ]
  exact this
theorem T.fits {k c : Nat} {q : Rat} (h : T k c q) (hk : k ≤ 8) (hc : c ≤ 1000) : Fits q := by
  obtain ⟨b1, b2⟩ := Fit.bound h
  have e1 : 1000000 ^ (k + 1) ≤ 10 ^ 54 := Nat.le_trans (Nat.pow_le_pow_right (n := 1000000) (by decide) (show k + 1 ≤ 9 by omega)) (by decide)
  have e2 : BB ^ k ≤ 10 ^ 90 := Nat.le_trans (Nat.pow_le_pow_right (by decide) hk) (by decide)
  have e3 : BB ^ k * 1000000 * c ≤ 10 ^ 90 * 1000000 * 1000 := Nat.mul_le_mul (Nat.mul_le_mul_right _ e2) hc
  exact Ln.fits (a := 100) (b := 54) ⟨Nat.le_trans b1 (Nat.le_trans e3 (by decide)), Nat.le_trans b2 e1⟩ (by omega) (by omega)
theorem T.arr1 {e : Rat} {f : Pt → Rat} {k : Nat} (hf : ∀ a, Fit (1000000 ^ k) (BB ^ k) (f a)) (he : Fit 1000000 1000000 e) (t : Pt) : T k 1 (f t * e) := T.mul (hf t) he
theorem T.arr2 {u e : Rat} {f : Pt → Rat} {k : Nat} (hf : ∀ a, Fit (1000000 ^ k) (BB ^ k) (f a)) (hu : Fit 1000000 1000000 u) (he : Fit 1000000 1000000 e) (t : Pt) : T k 2 (f t * e + (if 0 < t.1 then f (t.1 - 1, t.2) * u else 0)) := by
  refine T.add (c := 1) (c' := 1) (T.arr1 hf he t) ?_
  by_cases h : 0 < t.1
  · rw [if_pos h]; exact T.mul (hf _) hu
  · rw [if_neg h]; exact T.zero _ _
theorem T.arr3 {u d e : Rat} {f : Pt → Rat} {k : Nat} (hf : ∀ a, Fit (1000000 ^ k) (BB ^ k) (f a)) (hu : Fit 1000000 1000000 u) (hd : Fit 1000000 1000000 d) (he : Fit 1000000 1000000 e) (t : Pt) : T k 3 (arr u d e f t) := by
  unfold arr
  refine T.add (c := 2) (c' := 1) (T.arr2 hf hu he t) ?_
  by_cases h : 0 < t.2
  · rw [if_pos h]; exact T.mul (hf _) hd
  · rw [if_neg h]; exact T.zero _ _
theorem T.gv3 {dec : Pt → Bool} {u d e : Rat} {f : Pt → Rat} {k : Nat} (hf : ∀ a, Fit (1000000 ^ k) (BB ^ k) (f a)) (hu : Fit 1000000 1000000 u) (hd : Fit 1000000 1000000 d) (he : Fit 1000000 1000000 e) (t : Pt) : T k 3 (gv dec u d e f t) := by
  unfold gv
  by_cases h : dec t = true
  · rw [if_pos h]; exact T.arr3 hf hu hd he t
  · rw [if_neg h]; exact T.zero _ _
theorem T.row {g : Pt → Rat} {k : Nat} (hg : ∀ t, T k 3 (g t)) (x : Nat) : ∀ y, T k (3 * y) (rowS g x y)
  | 0 => T.zero _ _
  | y + 1 => by
    rw [rowS_step]
    exact ((T.row hg x y).add (hg _)).mono (by omega)
theorem T.grid {g : Pt → Rat} {k : Nat} (hg : ∀ t, T k 3 (g t)) (n : Nat) : ∀ x, T k (3 * (n + 1) * x) (gridS g n x)
  | 0 => T.zero _ _
  | x + 1 => by
    rw [gridS_step]
    exact ((T.grid hg n x).add (T.row hg x (n + 1))).mono (by rw [Nat.mul_succ (3 * (n + 1))]; exact Nat.le_refl _)
/-- all that is summed on the way -/
theorem T.on {g : Pt → Rat} {k : Nat} (hg : ∀ t, T k 3 (g t)) {n : Nat} (hn : n ≤ 8) {s : Rat} (hs : Fit (1000000 ^ k) (BB ^ k) s) {x y : Nat} (hx : x ≤ n + 1) (hy : y ≤ n + 1) : T k 400 (s + gridS g n x + rowS g x y) := by
  have h1 : 3 * (n + 1) * x ≤ 3 * 9 * 9 := Nat.mul_le_mul (by omega) (by omega)
  exact (((T.up hs).add (T.grid hg n x)).add (T.row hg x y)).mono (by omega)
/-- a round of the reference -/
structure Rnd (F H G : Pt → Rat) (E : Pt → Bool) (u d e : Rat) (n : Nat) (S0 S1 : Rat) : Prop where
  h : ∀ t, H t = if E t then 0 else arr u d e F t
  g : ∀ t, G t = if E t then arr u d e F t else 0
  f1 : ∀ t, Fits (F t)
  f2 : ∀ t, Fits (F t * e)
  fu : ∀ t, Fits (F t * u)
  fd : ∀ t, Fits (F t * d)
  f3 : ∀ t : Pt, Fits (F t * e + (if 0 < t.1 then F (t.1 - 1, t.2) * u else 0))
  f4 : ∀ t, Fits (arr u d e F t)
  s : ∀ x y, x ≤ n + 1 → y ≤ n + 1 → Fits (S0 + gridS G n x + rowS G x y)
  last : S0 + gridS G n (n + 1) = S1
theorem rnd_is {dec : Pt → Bool} {u d e : Rat} {n : Nat} (hn : n ≤ 8) (hu : Fit 1000000 1000000 u) (hd : Fit 1000000 1000000 d) (he : Fit 1000000 1000000 e) {k : Nat} (hk : k < n) :
    Rnd (chF dec u d e n k) (nxG (decN dec n) u d e (chF dec u d e n k)) (gv (decN dec n) u d e (chF dec u d e n k)) (decN dec n) u d e n (chS dec u d e n k) (chS dec u d e n (k + 1)) := by
  obtain ⟨hf, hs⟩ := ch_fit (dec := dec) hu hd he hn k
  have hg : ∀ t, T k 3 (gv (decN dec n) u d e (chF dec u d e n k) t) := fun t => T.gv3 hf hu hd he t
  exact { h := fun t => rfl, g := fun t => rfl, f1 := fun t => ((T.up (hf t)).fits (by omega) (by omega)), f2 := fun t => (T.arr1 hf he t).fits (by omega) (by omega), fu := fun t => (T.arr1 hf hu t).fits (by omega) (by omega), fd := fun t => (T.arr1 hf hd t).fits (by omega) (by omega), f3 := fun t => (T.arr2 hf hu he t).fits (by omega) (by omega), f4 := fun t => (T.arr3 hf hu hd he t).fits (by omega) (by omega), s := fun x y hx hy => (T.on hg hn hs hx hy).fits (by omega) (by omega), last := (ch_ref k hk).2.symm }
end Ch
end Go.Proofs.YtilolnjbpokdnaaGreatDoor
