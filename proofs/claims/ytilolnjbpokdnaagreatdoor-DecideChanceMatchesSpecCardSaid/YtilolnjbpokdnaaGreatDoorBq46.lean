/- chanceOf, Chance and Need of the reference, in the program's terms. Printed by gen_rch2.py. -/
import Derived.Test.YtilolnjbpokdnaaGreatDoorBq44
import Derived.Test.YtilolnjbpokdnaaGreatDoorBq45
import Derived.Test.YtilolnjbpokdnaaGreatDoorBq00
import Derived.Test.YtilolnjbpokdnaaGreatDoorBq01
import Derived.Test.YtilolnjbpokdnaaGreatDoorBq20
import Derived.Test.YtilolnjbpokdnaaGreatDoorBq23
namespace Go.Proofs.YtilolnjbpokdnaaGreatDoor
open Go.RowKit
namespace Nt
open _root_.Go.Proofs.YtilolnjbpokdnaaGreatDoor.Nm (rF rQ showN showD Fits Ln AnsPost FPost testF test_ok missF show_size lnFind lnFind_step lnFind_hit lnN lnK)
open _root_.Go.Proofs.YtilolnjbpokdnaaGreatDoor.Ch (decP chS many upN downN evenN pq Mille mille chQ chQ_fits chR chT chanN chanD chanF chan_is chan_out ndR ndF ndDec ndO nd_zero nd_less chQ_grid)
open _root_.Go.Proofs.YtilolnjbpokdnaaGreatDoor.lawLine (miss_parts)
theorem nd_bad {d k : Int} {n m : ByteArray} {z o : Int} {a b : ByteArray} (h : chanF d k n m 0 z o ≠ 0) (hR : testF d k n m = 0 → ndR z o → chanF d k n m 0 z o = 0) : ndF d k n m z o a b = chanF d k n m 0 z o ∧ ndO d k n m z o a b = none := by
 have e : ndF d k n m z o a b = chanF d k n m 0 z o := by
  unfold ndF
  by_cases ht : testF d k n m = 0
  ·rw [if_neg (fun h' => h' ht)]
   by_cases hr : ndR z o
   ·exact absurd (hR ht hr) h
   ·rw [if_neg hr]
    unfold chanF
    rw [if_neg (fun h' => h' ht), if_neg (fun hc => hr ⟨hc.2.1, hc.2.2⟩)]
  ·rw [if_pos ht]
   unfold chanF
   rw [if_pos ht]
 exact ⟨e, by unfold ndO; rw [if_neg (by rw [e]; exact h)]⟩
theorem nd_good {d k : Int} {n m : ByteArray} {z o : Int} {a b : ByteArray} (h : chanF d k n m 0 z o = 0) : testF d k n m = 0 ∧ ndR z o ∧ ndF d k n m z o a b = missF a b := by
 obtain ⟨h1, h2⟩ := Ch.chan_right h
 refine ⟨h1, ⟨h2.2.1, h2.2.2⟩, ?_⟩
 unfold ndF
 rw [if_neg (fun h' => h' h1), if_pos ⟨h2.2.1, h2.2.2⟩]
theorem chan_zero {d k : Int} {n m : ByteArray} {z o : Int} (ht : testF d k n m = 0) (hr : ndR z o) : chanF d k n m 0 z o = 0 := by
 obtain ⟨d1, d3, k1, k5, hmi⟩ := test_ok ht
 obtain ⟨q, hq, hrq, rfl, rfl, h0, h1q, hlq⟩ := miss_parts hmi
 obtain ⟨kn, rfl⟩ : ∃ x : Nat, k = (x : Int) := ⟨k.toNat, by omega⟩
 unfold ndR at hr
 obtain ⟨zn, rfl⟩ : ∃ x : Nat, z = (x : Int) := ⟨z.toNat, by omega⟩
 obtain ⟨on, rfl⟩ : ∃ x : Nat, o = (x : Int) := ⟨o.toNat, by omega⟩
 exact (chan_is hq ht (p := 0) (by omega) (by omega) (by omega)).2.2
set_option maxRecDepth 100000 in
set_option maxHeartbeats 16000000 in
theorem chanceOf_at (d : Int) (d1 : 1 ≤ d) (d3 : d ≤ 3) (bets n z o : Nat) (h1 : 1 ≤ bets) (h5 : bets ≤ 5) (hn : n ≤ 8) (hz : z ≤ 1000) (ho : o ≤ 1000) (q : Rat) (hq : Fits q) (h0 : 0 < q) (hlq : Ln 100 100 q) (w : World) (ht : Tab w) :
  Calls Tryz.prog 66 #[.agg #[.int .i64 d, .int .i64 (bets : Int), .string (showN q), .string (showD q)], .int .i64 (n : Int), .int .i64 (z : Int), .int .i64 (o : Int)] w (RtP w (chQ d bets q⁻¹ n z o n)) := by
 have hM := mille hz ho
 have hcf : Fits (chQ d bets q⁻¹ n z o n) := chQ_fits _ _ _ hn hn hz ho
 have hcq : chQ d bets q⁻¹ n z o n = chS (decP d bets q⁻¹) (many (upN z o)) (many (downN z o)) (many (evenN z o)) n n := rfl
 obtain ⟨P, hP⟩ : ∃ x : Rat, pq z = x := ⟨_, rfl⟩
 obtain ⟨Q, hQ⟩ : ∃ x : Rat, pq o = x := ⟨_, rfl⟩
 obtain ⟨P1, hP1⟩ : ∃ x : Rat, 1 - P = x := ⟨_, rfl⟩
 obtain ⟨Q1, hQ1⟩ : ∃ x : Rat, 1 - Q = x := ⟨_, rfl⟩
 obtain ⟨U, hU⟩ : ∃ x : Rat, many (upN z o) = x := ⟨_, rfl⟩
 obtain ⟨V, hV⟩ : ∃ x : Rat, many (downN z o) = x := ⟨_, rfl⟩
 obtain ⟨R1, hR1⟩ : ∃ x : Rat, 1 - U = x := ⟨_, rfl⟩
 obtain ⟨X, hX⟩ : ∃ x : Rat, many (evenN z o) = x := ⟨_, rfl⟩
 obtain ⟨C, hC⟩ : ∃ x : Rat, chQ d bets q⁻¹ n z o n = x := ⟨_, rfl⟩
 obtain ⟨m1, m2, m3, m4, m5, m6, m7, m8, m9, m10, m11, m12, m13, m14⟩ := hM
 rw [hP] at m1 m3 m5 m6
 rw [hQ] at m2 m4 m5 m6
 rw [hP1] at m3 m5
 rw [hQ1] at m4 m6
 rw [hU] at m5 m7 m9 m10 m12
 rw [hV] at m6 m8 m10 m13
 rw [hR1] at m9 m10
 rw [hX] at m10 m11 m14
 rw [hC] at hcf hcq
 rw [hU, hV, hX] at hcq
 obtain ⟨oq, hoq⟩ : ∃ x : Rat, (1 : Rat) = x := ⟨_, rfl⟩
 rw [hoq] at hP1 hQ1 hR1
 have HOQ := Lib.hid hoq
 have HEQ := Lib.hid (And.intro hP1 (And.intro hQ1 (And.intro m5 (And.intro m6 (And.intro hR1 m10)))))
 have HFT := Lib.hid (And.intro m1 (And.intro m2 (And.intro m3 (And.intro m4 (And.intro m7 (And.intro m8 (And.intro m9 m11)))))))
 have HFI := Lib.hid (And.intro m12 (And.intro m13 m14))
 have HPQ : Hid ((z : Rat) / ((1000 : Nat) : Rat) = P ∧ (o : Rat) / ((1000 : Nat) : Rat) = Q) := Lib.hid ⟨hP, hQ⟩
 have HFO : Hid (Fits oq) := Lib.hid (by rw [← hoq]; exact fits1)
 have HCQ := Lib.hid hcq
 have HCF := Lib.hid hcf
 have HC9 := Lib.hid hC
 have HIN := Lib.hid (And.intro hq (And.intro h0 hlq))
 clear m1 m2 m3 m4 m5 m6 m7 m8 m9 m10 m11 m12 m13 m14 hP hQ hP1 hQ1 hU hV hR1 hX hC hoq hcq hcf hq h0 hlq
 go_enter Tryz.func66, Tryz.ntmps66
 have HT0 := Lib.hid ht
 clear ht
 go_upto_region 1 with (fail)
 refine wp_box2r fun w1' hsz hbW hA0 hC hF => ?_
 clear hsz
 have HB_t := Lib.hid hA0
 have HB_o := Lib.hid hC
 have HF_o := Lib.hid hF
 have HW := Lib.hid hbW
 clear hbW hA0 hC hF
 go_wp2_with fail
 refine (ratioOf_is _ _ z 1000 P HPQ.out.1 rfl rfl (by decide) (by omega) (by decide) HFT.out.1 w1' (HT0.out.ext HW.out)).mono ?_
 rintro e w2' ⟨rfl, hbz⟩
 replace HB_t := Lib.hid (HB_t.out.ext hbz)
 replace HF_o := Lib.hid (HF_o.out.ext HB_o.out hbz)
 replace HB_o := Lib.hid (HB_o.out.ext hbz)
 replace HW := Lib.hid (ext_trans HW.out hbz)
 clear hbz
 go_upto_region 2 with (fail)
 refine wp_box1 fun w3' hsz hbz hC => ?_
 clear hsz
 have lt_t_p : w.heap.size < w2'.heap.size := HB_t.out.1
 have lt_o_p : (w.heap.size + 1) < w2'.heap.size := HB_o.out.1
 have le_p : w.heap.size ≤ w2'.heap.size := HW.out.size
 replace HB_t := Lib.hid (HB_t.out.ext hbz)
 replace HF_o := Lib.hid (HF_o.out.ext HB_o.out hbz)
 replace HB_o := Lib.hid (HB_o.out.ext hbz)
 replace HW := Lib.hid (ext_trans HW.out hbz)
 clear hbz
 have HB_p := Lib.hid hC
 clear hC
 generalize w2'.heap.size = b_p at *
 go_wp2_with fail
 refine (ratioOf_is _ _ o 1000 Q HPQ.out.2 rfl rfl (by decide) (by omega) (by decide) HFT.out.2.1 w3' (HT0.out.ext HW.out)).mono ?_
 rintro e w4' ⟨rfl, hbz⟩
 replace HB_t := Lib.hid (HB_t.out.ext hbz)
 replace HF_o := Lib.hid (HF_o.out.ext HB_o.out hbz)
 replace HB_o := Lib.hid (HB_o.out.ext hbz)
 replace HB_p := Lib.hid (HB_p.out.ext hbz)
 replace HW := Lib.hid (ext_trans HW.out hbz)
 clear hbz
 go_upto_region 3 with (fail)
 refine wp_box1 fun w5' hsz hbz hC => ?_
 clear hsz
 have lt_t_q : w.heap.size < w4'.heap.size := HB_t.out.1
 have lt_o_q : (w.heap.size + 1) < w4'.heap.size := HB_o.out.1
 have lt_p_q : b_p < w4'.heap.size := HB_p.out.1
 have le_q : w.heap.size ≤ w4'.heap.size := HW.out.size
 replace HB_t := Lib.hid (HB_t.out.ext hbz)
 replace HF_o := Lib.hid (HF_o.out.ext HB_o.out hbz)
 replace HB_o := Lib.hid (HB_o.out.ext hbz)
 replace HB_p := Lib.hid (HB_p.out.ext hbz)
 replace HW := Lib.hid (ext_trans HW.out hbz)
 clear hbz
 have HB_q := Lib.hid hC
 clear hC
 generalize w4'.heap.size = b_q at *
 have c_p_0 : w5'.cell? ⟨b_p, 0, none⟩ = some (.string (showN (P))) := HB_p.out.2 0
 have c_p_1 : w5'.cell? ⟨b_p, 1, none⟩ = some (.string (showD (P))) := HB_p.out.2 1
 have c_q_0 : w5'.cell? ⟨b_q, 0, none⟩ = some (.string (showN (Q))) := HB_q.out.2 0
 have c_q_1 : w5'.cell? ⟨b_q, 1, none⟩ = some (.string (showD (Q))) := HB_q.out.2 1
 refine Grow.wp_region_grow2 12 [.is (TP.eq (rtV Q)), .is (TP.eq (rtV oq)), .is (TP.eq (rtV P)), .is (TP.eq (rtV P1)), .is (TP.eq (rtV U)), .is (TP.eq (rtV P)), .is (TP.eq (rtV oq)), .is (TP.eq (rtV Q)), .is (TP.eq (rtV Q1)), .is (TP.eq (rtV V)), .new #[.string ⟨#[]⟩, .string ⟨#[]⟩], .new #[.string ⟨#[]⟩, .string ⟨#[]⟩]] [[], [], [], [1, 2], [0, 3], [], [], [], [6, 7], [5, 8], [], []] (by kernel_rfl) (by kernel_rfl) ⟨?o0c, ?o1c, ?o2c, ?o3c, ?o4c, ?o5c, ?o6c, ?o7c, ?o8c, ?o9c, ?o10c, ?o11c, trivial⟩ ?_
 case o0c =>
  intro w' hb
  have c_q_0' := zzc hb c_q_0
  have c_q_1' := zzc hb c_q_1
  show wpList _ _ _ _ _ _
  go_wp2
  exact ⟨rfl, Below.refl _ _, rfl⟩
 case o1c =>
  intro w' hb
  show wpList _ _ _ _ _ _
  go_wp2_with fail
  refine ((by have h := whole1 w' (HT0.out.ext (ext_trans HW.out hb)); rw [HOQ.out] at h; exact h : Calls _ _ _ w' (RtP w' oq))).mono ?_
  rintro e wz ⟨rfl, hbz⟩
  go_wp2
  exact ⟨rfl, hbz, rfl⟩
 case o2c =>
  intro w' hb
  have c_p_0' := zzc hb c_p_0
  have c_p_1' := zzc hb c_p_1
  show wpList _ _ _ _ _ _
  go_wp2
  exact ⟨rfl, Below.refl _ _, rfl⟩
 case o3c =>
  intro w' hb v1 hv1 v2 hv2
  obtain rfl : v1 = _ := hv1
  obtain rfl : v2 = _ := hv2
  show wpList _ _ _ _ _ _
  simp only [Grow.dstOf, zz1, zz2, zz3, zz4, Act.put, zz5, zz6, zz7]
  go_wp2_with fail
  refine (minus_is oq P P1 HEQ.out.1 HFO.out HFT.out.1 HFT.out.2.2.1 w' (HT0.out.ext (ext_trans HW.out hb))).mono ?_
  rintro e wz ⟨rfl, hbz⟩
  go_wp2
  exact ⟨rfl, hbz, rfl⟩
 case o4c =>
  intro w' hb v1 hv1 v2 hv2
  obtain rfl : v1 = _ := hv1
  obtain rfl : v2 = _ := hv2
  show wpList _ _ _ _ _ _
  simp only [Grow.dstOf, zz1, zz2, zz3, zz4, Act.put, zz5, zz6, zz7]
  go_wp2_with fail
  refine (times_is Q P1 U HEQ.out.2.2.1 HFT.out.2.1 HFT.out.2.2.1 HFT.out.2.2.2.2.1 w' (HT0.out.ext (ext_trans HW.out hb))).mono ?_
  rintro e wz ⟨rfl, hbz⟩
  go_wp2
  exact ⟨rfl, hbz, rfl⟩
 case o5c =>
  intro w' hb
  have c_p_0' := zzc hb c_p_0
  have c_p_1' := zzc hb c_p_1
  show wpList _ _ _ _ _ _
  go_wp2
  exact ⟨rfl, Below.refl _ _, rfl⟩
 case o6c =>
  intro w' hb
  show wpList _ _ _ _ _ _
  go_wp2_with fail
  refine ((by have h := whole1 w' (HT0.out.ext (ext_trans HW.out hb)); rw [HOQ.out] at h; exact h : Calls _ _ _ w' (RtP w' oq))).mono ?_
  rintro e wz ⟨rfl, hbz⟩
  go_wp2
  exact ⟨rfl, hbz, rfl⟩
 case o7c =>
  intro w' hb
  have c_q_0' := zzc hb c_q_0
  have c_q_1' := zzc hb c_q_1
  show wpList _ _ _ _ _ _
  go_wp2
  exact ⟨rfl, Below.refl _ _, rfl⟩
 case o8c =>
  intro w' hb v1 hv1 v2 hv2
  obtain rfl : v1 = _ := hv1
  obtain rfl : v2 = _ := hv2
  show wpList _ _ _ _ _ _
  simp only [Grow.dstOf, zz1, zz2, zz3, zz4, Act.put, zz5, zz6, zz7]
  go_wp2_with fail
  refine (minus_is oq Q Q1 HEQ.out.2.1 HFO.out HFT.out.2.1 HFT.out.2.2.2.1 w' (HT0.out.ext (ext_trans HW.out hb))).mono ?_
  rintro e wz ⟨rfl, hbz⟩
  go_wp2
  exact ⟨rfl, hbz, rfl⟩
 case o9c =>
  intro w' hb v1 hv1 v2 hv2
  obtain rfl : v1 = _ := hv1
  obtain rfl : v2 = _ := hv2
  show wpList _ _ _ _ _ _
  simp only [Grow.dstOf, zz1, zz2, zz3, zz4, Act.put, zz5, zz6, zz7]
  go_wp2_with fail
  refine (times_is P Q1 V HEQ.out.2.2.2.1 HFT.out.1 HFT.out.2.2.2.1 HFT.out.2.2.2.2.2.1 w' (HT0.out.ext (ext_trans HW.out hb))).mono ?_
  rintro e wz ⟨rfl, hbz⟩
  go_wp2
  exact ⟨rfl, hbz, rfl⟩
 case o10c =>
  intro w' hb
  show wpList _ _ _ _ _ _
  go_wp2
  exact ⟨⟨_, rfl, Nat.le_refl _, Box.new _ _ _, Fre.new _ _ _⟩, ext_alloc _ _, rfl⟩
 case o11c =>
  intro w' hb
  show wpList _ _ _ _ _ _
  go_wp2
  exact ⟨⟨_, rfl, Nat.le_refl _, Box.new _ _ _, Fre.new _ _ _⟩, ext_alloc _ _, rfl⟩
 intro w6' hbz u0 hu0 u1 hu1 u2 hu2 u3 hu3 u4 hu4 u5 hu5 u6 hu6 u7 hu7 u8 hu8 u9 hu9 u10 hu10 u11 hu11 hpw
 obtain rfl : u4 = _ := hu4
 obtain rfl : u9 = _ := hu9
 have hne9 : u10 ≠ u11 := hpw 10 11 (by omega) (by omega) (by omega) rfl rfl
 have hg10 : ∃ g, u10 = .pointer (some ⟨g, 0, none⟩) ∧ w5'.heap.size ≤ g ∧ Box w6' g #[.string ⟨#[]⟩, .string ⟨#[]⟩] ∧ Fre w6' g := hu10
 have hg11 : ∃ g, u11 = .pointer (some ⟨g, 0, none⟩) ∧ w5'.heap.size ≤ g ∧ Box w6' g #[.string ⟨#[]⟩, .string ⟨#[]⟩] ∧ Fre w6' g := hu11
 clear hpw hu0 hu1 hu2 hu3 hu5 hu6 hu7 hu8 hu10 hu11
 obtain ⟨b_u, rfl, hgU, hXU, hFU⟩ := hg10
 obtain ⟨b_v, rfl, hgV, hXV, hFV⟩ := hg11
 have hne : b_u ≠ b_v := fun e => hne9 (by rw [e])
 clear hne9
 have lt_t_u : w.heap.size < b_u := Nat.lt_of_lt_of_le HB_t.out.1 hgU
 have lt_o_u : (w.heap.size + 1) < b_u := Nat.lt_of_lt_of_le HB_o.out.1 hgU
 have lt_p_u : b_p < b_u := Nat.lt_of_lt_of_le HB_p.out.1 hgU
 have lt_q_u : b_q < b_u := Nat.lt_of_lt_of_le HB_q.out.1 hgU
 have le_u : w.heap.size ≤ b_u := Nat.le_trans HW.out.size hgU
 have lt_t_v : w.heap.size < b_v := Nat.lt_of_lt_of_le HB_t.out.1 hgV
 have lt_o_v : (w.heap.size + 1) < b_v := Nat.lt_of_lt_of_le HB_o.out.1 hgV
 have lt_p_v : b_p < b_v := Nat.lt_of_lt_of_le HB_p.out.1 hgV
 have lt_q_v : b_q < b_v := Nat.lt_of_lt_of_le HB_q.out.1 hgV
 have le_v : w.heap.size ≤ b_v := Nat.le_trans HW.out.size hgV
 clear hgU hgV
 replace HB_t := Lib.hid (HB_t.out.ext hbz)
 replace HF_o := Lib.hid (HF_o.out.ext HB_o.out hbz)
 replace HB_o := Lib.hid (HB_o.out.ext hbz)
 replace HB_p := Lib.hid (HB_p.out.ext hbz)
 replace HB_q := Lib.hid (HB_q.out.ext hbz)
 replace HW := Lib.hid (ext_trans HW.out hbz)
 clear c_p_0 c_p_1 c_q_0 c_q_1
 clear hbz
 have HB_u := Lib.hid hXU
 have HF_u := Lib.hid hFU
 have HB_v := Lib.hid hXV
 have HF_v := Lib.hid hFV
 clear hXU hFU hXV hFV
 clear HB_p
 clear HB_q
 show wpList _ _ _ _ _ _
 simp only [Act.put, zz5, zz6, zz7]
 have c_u_0 : w6'.cell? ⟨b_u, 0, none⟩ = some (.string ⟨#[]⟩) := HB_u.out.2 0
 have c_u_1 : w6'.cell? ⟨b_u, 1, none⟩ = some (.string ⟨#[]⟩) := HB_u.out.2 1
 have c_v_0 : w6'.cell? ⟨b_v, 0, none⟩ = some (.string ⟨#[]⟩) := HB_v.out.2 0
 have c_v_1 : w6'.cell? ⟨b_v, 1, none⟩ = some (.string ⟨#[]⟩) := HB_v.out.2 1
 have f_u_0 := HF_u.out 0
 have f_u_1 := HF_u.out 1
 have f_v_0 := HF_v.out 0
 have f_v_1 := HF_v.out 1
 go_upto_region 4 with (fail)
 obtain ⟨w7', hX⟩ : ∃ X, X = ((((w6'.setCell ⟨b_u, 0, none⟩ (.string (showN U))).setCell ⟨b_u, 1, none⟩ (.string (showD U))).setCell ⟨b_v, 0, none⟩ (.string (showN V))).setCell ⟨b_v, 1, none⟩ (.string (showD V))) := ⟨_, rfl⟩
 rw [← hX]
 have nB_t : Hid (Box w7' w.heap.size #[.int .i64 d, .int .i64 (bets : Int), .string (showN q), .string (showD q)]) := by rw [hX]; exact Lib.hid (boxn_other (boxn_other (boxn_other (boxn_other (HB_t.out) (show w.heap.size ≠ b_u by omega) (0) (.string (showN U))) (show w.heap.size ≠ b_u by omega) (1) (.string (showD U))) (show w.heap.size ≠ b_v by omega) (0) (.string (showN V))) (show w.heap.size ≠ b_v by omega) (1) (.string (showD V)))
 have nB_o : Hid (Box w7' (w.heap.size + 1) #[.string ⟨#[]⟩, .string ⟨#[]⟩]) := by rw [hX]; exact Lib.hid (boxn_other (boxn_other (boxn_other (boxn_other (HB_o.out) (show (w.heap.size + 1) ≠ b_u by omega) (0) (.string (showN U))) (show (w.heap.size + 1) ≠ b_u by omega) (1) (.string (showD U))) (show (w.heap.size + 1) ≠ b_v by omega) (0) (.string (showN V))) (show (w.heap.size + 1) ≠ b_v by omega) (1) (.string (showD V)))
 have nF_o : Hid (Fre w7' (w.heap.size + 1)) := by rw [hX]; exact Lib.hid (fun j => by simp only [World.frozen?_setCell]; exact HF_o.out j)
 have nB_u : Hid (Box w7' b_u #[.string (showN U), .string (showD U)]) := by rw [hX]; exact Lib.hid (boxn_other (boxn_other (boxn_cell (boxn_cell (HB_u.out) (j := 0) (by simp) (.string (showN U))) (j := 1) (by simp) (.string (showD U))) (show b_u ≠ b_v by omega) (0) (.string (showN V))) (show b_u ≠ b_v by omega) (1) (.string (showD V)))
 have nF_u : Hid (Fre w7' b_u) := by rw [hX]; exact Lib.hid (fun j => by simp only [World.frozen?_setCell]; exact HF_u.out j)
 have nB_v : Hid (Box w7' b_v #[.string (showN V), .string (showD V)]) := by rw [hX]; exact Lib.hid (boxn_cell (boxn_cell (boxn_other (boxn_other (HB_v.out) (show b_v ≠ b_u by omega) (0) (.string (showN U))) (show b_v ≠ b_u by omega) (1) (.string (showD U))) (j := 0) (by simp) (.string (showN V))) (j := 1) (by simp) (.string (showD V)))
 have nF_v : Hid (Fre w7' b_v) := by rw [hX]; exact Lib.hid (fun j => by simp only [World.frozen?_setCell]; exact HF_v.out j)
 have nW : Hid (Below w.heap.size w w7') := by rw [hX]; exact Lib.hid (((((HW.out).setCell (p := ⟨b_u, 0, none⟩) (show w.heap.size ≤ b_u by omega) (.string (showN U))).setCell (p := ⟨b_u, 1, none⟩) (show w.heap.size ≤ b_u by omega) (.string (showD U))).setCell (p := ⟨b_v, 0, none⟩) (show w.heap.size ≤ b_v by omega) (.string (showN V))).setCell (p := ⟨b_v, 1, none⟩) (show w.heap.size ≤ b_v by omega) (.string (showD V)))
 clear c_u_0 c_u_1 c_v_0 c_v_1 f_u_0 f_u_1 f_v_0 f_v_1
 clear hX HB_t HB_o HF_o HB_u HF_u HB_v HF_v HW 
 have HB_t := nB_t; clear nB_t
 have HB_o := nB_o; clear nB_o; have HF_o := nF_o; clear nF_o
 have HB_u := nB_u; clear nB_u; have HF_u := nF_u; clear nF_u
 have HB_v := nB_v; clear nB_v; have HF_v := nF_v; clear nF_v
 have HW := nW; clear nW
 have c_t_0 : w7'.cell? ⟨w.heap.size, 0, none⟩ = some (.int .i64 d) := HB_t.out.2 0
 have c_t_1 : w7'.cell? ⟨w.heap.size, 1, none⟩ = some (.int .i64 (bets : Int)) := HB_t.out.2 1
 have c_t_2 : w7'.cell? ⟨w.heap.size, 2, none⟩ = some (.string (showN q)) := HB_t.out.2 2
 have c_t_3 : w7'.cell? ⟨w.heap.size, 3, none⟩ = some (.string (showD q)) := HB_t.out.2 3
 have c_u_0 : w7'.cell? ⟨b_u, 0, none⟩ = some (.string (showN U)) := HB_u.out.2 0
 have c_u_1 : w7'.cell? ⟨b_u, 1, none⟩ = some (.string (showD U)) := HB_u.out.2 1
 have c_v_0 : w7'.cell? ⟨b_v, 0, none⟩ = some (.string (showN V)) := HB_v.out.2 0
 have c_v_1 : w7'.cell? ⟨b_v, 1, none⟩ = some (.string (showD V)) := HB_v.out.2 1
 refine Grow.wp_region_grow 10 [TP.eq (.agg #[.int .i64 d, .int .i64 (bets : Int), .string (showN q), .string (showD q)]), TP.eq (.int .i64 (n : Int)), TP.eq (rtV U), TP.eq (rtV V), TP.eq (rtV oq), TP.eq (rtV U), TP.eq (rtV R1), TP.eq (rtV V), TP.eq (rtV X), TP.eq (rtV C)] [[], [], [], [], [], [], [4, 5], [], [6, 7], [0, 1, 2, 3, 8]] (by kernel_rfl) (by kernel_rfl) ⟨?o0d, ?o1d, ?o2d, ?o3d, ?o4d, ?o5d, ?o6d, ?o7d, ?o8d, ?o9d, trivial⟩ ?_
 case o0d =>
  intro w' hb
  have c_t_0' := zzc hb c_t_0
  have c_t_1' := zzc hb c_t_1
  have c_t_2' := zzc hb c_t_2
  have c_t_3' := zzc hb c_t_3
  show wpList _ _ _ _ _ _
  go_wp2
  exact ⟨rfl, Below.refl _ _, rfl⟩
 case o1d =>
  intro w' hb
  show wpList _ _ _ _ _ _
  go_wp2
  exact ⟨rfl, Below.refl _ _, rfl⟩
 case o2d =>
  intro w' hb
  have c_u_0' := zzc hb c_u_0
  have c_u_1' := zzc hb c_u_1
  show wpList _ _ _ _ _ _
  go_wp2
  exact ⟨rfl, Below.refl _ _, rfl⟩
 case o3d =>
  intro w' hb
  have c_v_0' := zzc hb c_v_0
  have c_v_1' := zzc hb c_v_1
  show wpList _ _ _ _ _ _
  go_wp2
  exact ⟨rfl, Below.refl _ _, rfl⟩
 case o4d =>
  intro w' hb
  show wpList _ _ _ _ _ _
  go_wp2_with fail
  refine ((by have h := whole1 w' (HT0.out.ext (ext_trans HW.out hb)); rw [HOQ.out] at h; exact h : Calls _ _ _ w' (RtP w' oq))).mono ?_
  rintro e wz ⟨rfl, hbz⟩
  go_wp2
  exact ⟨rfl, hbz, rfl⟩
 case o5d =>
  intro w' hb
  have c_u_0' := zzc hb c_u_0
  have c_u_1' := zzc hb c_u_1
  show wpList _ _ _ _ _ _
  go_wp2
  exact ⟨rfl, Below.refl _ _, rfl⟩
 case o6d =>
  intro w' hb v1 hv1 v2 hv2
  obtain rfl : v1 = _ := hv1
  obtain rfl : v2 = _ := hv2
  show wpList _ _ _ _ _ _
  simp only [Grow.dstOf, zz1, zz2, zz3, zz4, Act.put, zz5, zz6, zz7]
  go_wp2_with fail
  refine (minus_is oq U R1 HEQ.out.2.2.2.2.1 HFO.out HFT.out.2.2.2.2.1 HFT.out.2.2.2.2.2.2.1 w' (HT0.out.ext (ext_trans HW.out hb))).mono ?_
  rintro e wz ⟨rfl, hbz⟩
  go_wp2
  exact ⟨rfl, hbz, rfl⟩
 case o7d =>
  intro w' hb
  have c_v_0' := zzc hb c_v_0
  have c_v_1' := zzc hb c_v_1
  show wpList _ _ _ _ _ _
  go_wp2
  exact ⟨rfl, Below.refl _ _, rfl⟩
 case o8d =>
  intro w' hb v1 hv1 v2 hv2
  obtain rfl : v1 = _ := hv1
  obtain rfl : v2 = _ := hv2
  show wpList _ _ _ _ _ _
  simp only [Grow.dstOf, zz1, zz2, zz3, zz4, Act.put, zz5, zz6, zz7]
  go_wp2_with fail
  refine (minus_is R1 V X HEQ.out.2.2.2.2.2 HFT.out.2.2.2.2.2.2.1 HFT.out.2.2.2.2.2.1 HFT.out.2.2.2.2.2.2.2 w' (HT0.out.ext (ext_trans HW.out hb))).mono ?_
  rintro e wz ⟨rfl, hbz⟩
  go_wp2
  exact ⟨rfl, hbz, rfl⟩
 case o9d =>
  intro w' hb v1 hv1 v2 hv2 v3 hv3 v4 hv4 v5 hv5
  obtain rfl : v1 = _ := hv1
  obtain rfl : v2 = _ := hv2
  obtain rfl : v3 = _ := hv3
  obtain rfl : v4 = _ := hv4
  obtain rfl : v5 = _ := hv5
  show wpList _ _ _ _ _ _
  simp only [Grow.dstOf, zz1, zz2, zz3, zz4, Act.put, zz5, zz6, zz7]
  go_wp2_with fail
  refine ((by have h := refchance_at d d1 d3 bets n h1 h5 hn q HIN.out.1 HIN.out.2.1 HIN.out.2.2 U V X HFI.out.1 HFI.out.2.1 HFI.out.2.2 HFT.out.2.2.2.2.1 HFT.out.2.2.2.2.2.1 HFT.out.2.2.2.2.2.2.2 w' (HT0.out.ext (ext_trans HW.out hb)); rw [← HCQ.out] at h; exact h : Calls _ _ _ w' (RtP w' C))).mono ?_
  rintro e wz ⟨rfl, hbz⟩
  go_wp2
  exact ⟨rfl, hbz, rfl⟩
 intro w8' hbz u0 hu0 u1 hu1 u2 hu2 u3 hu3 u4 hu4 u5 hu5 u6 hu6 u7 hu7 u8 hu8 u9 hu9
 obtain rfl : u9 = _ := hu9
 clear hu0 hu1 hu2 hu3 hu4 hu5 hu6 hu7 hu8
 replace HB_t := Lib.hid (HB_t.out.ext hbz)
 replace HF_o := Lib.hid (HF_o.out.ext HB_o.out hbz)
 replace HB_o := Lib.hid (HB_o.out.ext hbz)
 replace HF_u := Lib.hid (HF_u.out.ext HB_u.out hbz)
 replace HB_u := Lib.hid (HB_u.out.ext hbz)
 replace HF_v := Lib.hid (HF_v.out.ext HB_v.out hbz)
 replace HB_v := Lib.hid (HB_v.out.ext hbz)
 replace HW := Lib.hid (ext_trans HW.out hbz)
 clear c_t_0 c_t_1 c_t_2 c_t_3 c_u_0 c_u_1 c_v_0 c_v_1
 clear hbz
 show wpList _ _ _ _ _ _
 simp only [Act.put, zz5, zz6, zz7]
 have c_o_0 : w8'.cell? ⟨(w.heap.size + 1), 0, none⟩ = some (.string ⟨#[]⟩) := HB_o.out.2 0
 have c_o_1 : w8'.cell? ⟨(w.heap.size + 1), 1, none⟩ = some (.string ⟨#[]⟩) := HB_o.out.2 1
 have f_o_0 := HF_o.out 0
 have f_o_1 := HF_o.out 1
 have HRR := Lib.hid (res2s (.string (showN C)) (.string (showD C)) HB_o.out HW.out (show w.heap.size ≤ (w.heap.size + 1) by omega))
 obtain ⟨hbF, z0, z1⟩ := id HRR.out
 clear hbF
 go_wp2
 exact bodyPost_ret (v := .agg #[.string (showN C), .string (showD C)]) (by simp [results, Tryz.results66, go_sem, z0, z1]) rfl ⟨by rw [HC9.out], HRR.out.1⟩
set_option maxRecDepth 100000 in
set_option maxHeartbeats 16000000 in
theorem refChance_at (d k : Int) (n m : ByteArray) (hn : n.size ≤ maxLen) (hm : m.size ≤ maxLen) (p z o : Int) (w : World) (ht : Tab w) : Calls Tryz.prog 19 #[.agg #[.int .i64 d, .int .i64 k, .string n, .string m], .int .i64 p, .int .i64 z, .int .i64 o] w (AnsPost w (chanN d k n m p z o) (chanD d k n m p z o) (chanF d k n m p z o)) := by
 go_enter Tryz.func19, Tryz.ntmps19
 have HT0 := Lib.hid ht
 clear ht
 go_upto_region 1 with (fail)
 refine wp_box2r fun w1' hsz hbW hA0 hC hF => ?_
 clear hsz
 have HB_t := Lib.hid hA0
 have HB_o := Lib.hid hC
 have HF_o := Lib.hid hF
 have HW := Lib.hid hbW
 clear hbW hA0 hC hF
 have c_t_0 : w1'.cell? ⟨w.heap.size, 0, none⟩ = some (.int .i64 d) := HB_t.out.2 0
 have c_t_1 : w1'.cell? ⟨w.heap.size, 1, none⟩ = some (.int .i64 k) := HB_t.out.2 1
 have c_t_2 : w1'.cell? ⟨w.heap.size, 2, none⟩ = some (.string n) := HB_t.out.2 2
 have c_t_3 : w1'.cell? ⟨w.heap.size, 3, none⟩ = some (.string m) := HB_t.out.2 3
 go_wp2_with fail
 refine (checkTest_at d k n m hn hm w1' (HT0.out.ext HW.out)).mono ?_
 rintro e w2' ⟨rfl, hbz⟩
 replace HB_t := Lib.hid (HB_t.out.ext hbz)
 replace HF_o := Lib.hid (HF_o.out.ext HB_o.out hbz)
 replace HB_o := Lib.hid (HB_o.out.ext hbz)
 replace HW := Lib.hid (ext_trans HW.out hbz)
 clear c_t_0 c_t_1 c_t_2 c_t_3
 clear hbz
 by_cases hf : testF d k n m = 0
 ·have hne : (testF d k n m != 0) = false := by simp [hf]
  by_cases g0 : p < 0
  ·have HV := Lib.hid (chan_out hf (p := p) (z := z) (o := o) (by unfold chR; omega))
   clear hf
   have c_o_0 : w2'.cell? ⟨(w.heap.size + 1), 0, none⟩ = some (.string ⟨#[]⟩) := HB_o.out.2 0
   have c_o_1 : w2'.cell? ⟨(w.heap.size + 1), 1, none⟩ = some (.string ⟨#[]⟩) := HB_o.out.2 1
   have f_o_0 := HF_o.out 0
   have f_o_1 := HF_o.out 1
   have HRR := Lib.hid (res2s (.string ⟨#[]⟩) (.string ⟨#[]⟩) HB_o.out HW.out (show w.heap.size ≤ (w.heap.size + 1) by omega))
   obtain ⟨hbF, z0, z1⟩ := id HRR.out
   clear hbF
   go_wp2
   exact bodyPost_ret (v := .tuple #[.agg #[.string ⟨#[]⟩, .string ⟨#[]⟩], .int .i64 (1)]) (by simp [results, Tryz.results19, go_sem, z0, z1]) rfl ⟨by rw [HV.out.1, HV.out.2.1, HV.out.2.2], HRR.out.1⟩
  ·by_cases g1 : 8 < p
   ·have HV := Lib.hid (chan_out hf (p := p) (z := z) (o := o) (by unfold chR; omega))
    clear hf
    have c_o_0 : w2'.cell? ⟨(w.heap.size + 1), 0, none⟩ = some (.string ⟨#[]⟩) := HB_o.out.2 0
    have c_o_1 : w2'.cell? ⟨(w.heap.size + 1), 1, none⟩ = some (.string ⟨#[]⟩) := HB_o.out.2 1
    have f_o_0 := HF_o.out 0
    have f_o_1 := HF_o.out 1
    have HRR := Lib.hid (res2s (.string ⟨#[]⟩) (.string ⟨#[]⟩) HB_o.out HW.out (show w.heap.size ≤ (w.heap.size + 1) by omega))
    obtain ⟨hbF, z0, z1⟩ := id HRR.out
    clear hbF
    go_wp2
    exact bodyPost_ret (v := .tuple #[.agg #[.string ⟨#[]⟩, .string ⟨#[]⟩], .int .i64 (1)]) (by simp [results, Tryz.results19, go_sem, z0, z1]) rfl ⟨by rw [HV.out.1, HV.out.2.1, HV.out.2.2], HRR.out.1⟩
   ·by_cases g2 : z < 0
    ·have HV := Lib.hid (chan_out hf (p := p) (z := z) (o := o) (by unfold chR; omega))
     clear hf
     have c_o_0 : w2'.cell? ⟨(w.heap.size + 1), 0, none⟩ = some (.string ⟨#[]⟩) := HB_o.out.2 0
     have c_o_1 : w2'.cell? ⟨(w.heap.size + 1), 1, none⟩ = some (.string ⟨#[]⟩) := HB_o.out.2 1
     have f_o_0 := HF_o.out 0
     have f_o_1 := HF_o.out 1
     have HRR := Lib.hid (res2s (.string ⟨#[]⟩) (.string ⟨#[]⟩) HB_o.out HW.out (show w.heap.size ≤ (w.heap.size + 1) by omega))
     obtain ⟨hbF, z0, z1⟩ := id HRR.out
     clear hbF
     go_wp2
     exact bodyPost_ret (v := .tuple #[.agg #[.string ⟨#[]⟩, .string ⟨#[]⟩], .int .i64 (1)]) (by simp [results, Tryz.results19, go_sem, z0, z1]) rfl ⟨by rw [HV.out.1, HV.out.2.1, HV.out.2.2], HRR.out.1⟩
    ·by_cases g3 : 1000 < z
     ·have HV := Lib.hid (chan_out hf (p := p) (z := z) (o := o) (by unfold chR; omega))
      clear hf
      have c_o_0 : w2'.cell? ⟨(w.heap.size + 1), 0, none⟩ = some (.string ⟨#[]⟩) := HB_o.out.2 0
      have c_o_1 : w2'.cell? ⟨(w.heap.size + 1), 1, none⟩ = some (.string ⟨#[]⟩) := HB_o.out.2 1
      have f_o_0 := HF_o.out 0
      have f_o_1 := HF_o.out 1
      have HRR := Lib.hid (res2s (.string ⟨#[]⟩) (.string ⟨#[]⟩) HB_o.out HW.out (show w.heap.size ≤ (w.heap.size + 1) by omega))
      obtain ⟨hbF, z0, z1⟩ := id HRR.out
      clear hbF
      go_wp2
      exact bodyPost_ret (v := .tuple #[.agg #[.string ⟨#[]⟩, .string ⟨#[]⟩], .int .i64 (1)]) (by simp [results, Tryz.results19, go_sem, z0, z1]) rfl ⟨by rw [HV.out.1, HV.out.2.1, HV.out.2.2], HRR.out.1⟩
     ·by_cases g4 : o < 0
      ·have HV := Lib.hid (chan_out hf (p := p) (z := z) (o := o) (by unfold chR; omega))
       clear hf
       have c_o_0 : w2'.cell? ⟨(w.heap.size + 1), 0, none⟩ = some (.string ⟨#[]⟩) := HB_o.out.2 0
       have c_o_1 : w2'.cell? ⟨(w.heap.size + 1), 1, none⟩ = some (.string ⟨#[]⟩) := HB_o.out.2 1
       have f_o_0 := HF_o.out 0
       have f_o_1 := HF_o.out 1
       have HRR := Lib.hid (res2s (.string ⟨#[]⟩) (.string ⟨#[]⟩) HB_o.out HW.out (show w.heap.size ≤ (w.heap.size + 1) by omega))
       obtain ⟨hbF, z0, z1⟩ := id HRR.out
       clear hbF
       go_wp2
       exact bodyPost_ret (v := .tuple #[.agg #[.string ⟨#[]⟩, .string ⟨#[]⟩], .int .i64 (1)]) (by simp [results, Tryz.results19, go_sem, z0, z1]) rfl ⟨by rw [HV.out.1, HV.out.2.1, HV.out.2.2], HRR.out.1⟩
      ·by_cases g5 : 1000 < o
       ·have HV := Lib.hid (chan_out hf (p := p) (z := z) (o := o) (by unfold chR; omega))
        clear hf
        have c_o_0 : w2'.cell? ⟨(w.heap.size + 1), 0, none⟩ = some (.string ⟨#[]⟩) := HB_o.out.2 0
        have c_o_1 : w2'.cell? ⟨(w.heap.size + 1), 1, none⟩ = some (.string ⟨#[]⟩) := HB_o.out.2 1
        have f_o_0 := HF_o.out 0
        have f_o_1 := HF_o.out 1
        have HRR := Lib.hid (res2s (.string ⟨#[]⟩) (.string ⟨#[]⟩) HB_o.out HW.out (show w.heap.size ≤ (w.heap.size + 1) by omega))
        obtain ⟨hbF, z0, z1⟩ := id HRR.out
        clear hbF
        go_wp2
        exact bodyPost_ret (v := .tuple #[.agg #[.string ⟨#[]⟩, .string ⟨#[]⟩], .int .i64 (1)]) (by simp [results, Tryz.results19, go_sem, z0, z1]) rfl ⟨by rw [HV.out.1, HV.out.2.1, HV.out.2.2], HRR.out.1⟩
       ·obtain ⟨d1, d3, k1, k5, hmi⟩ := test_ok hf
        obtain ⟨q, hq, hrq, rfl, rfl, h0, h1q, hlq⟩ := miss_parts hmi
        obtain ⟨kn, rfl⟩ : ∃ x : Nat, k = (x : Int) := ⟨k.toNat, by omega⟩
        obtain ⟨pn, rfl⟩ : ∃ x : Nat, p = (x : Int) := ⟨p.toNat, by omega⟩
        obtain ⟨zn, rfl⟩ : ∃ x : Nat, z = (x : Int) := ⟨z.toNat, by omega⟩
        obtain ⟨on, rfl⟩ : ∃ x : Nat, o = (x : Int) := ⟨o.toNat, by omega⟩
        have hpn : pn ≤ 8 := by omega
        have hzn : zn ≤ 1000 := by omega
        have hon : on ≤ 1000 := by omega
        have HV := Lib.hid (chan_is hq hf hpn hzn hon)
        have HIN := Lib.hid (And.intro hq (And.intro h0 hlq))
        obtain ⟨C, hC⟩ : ∃ x, chQ d kn q⁻¹ pn zn on pn = x := ⟨_, rfl⟩
        rw [hC] at HV
        have HC := Lib.hid hC
        clear hC hq hrq h0 h1q hlq hmi hf hn hm
        have c_t_0 : w2'.cell? ⟨w.heap.size, 0, none⟩ = some (.int .i64 d) := HB_t.out.2 0
        have c_t_1 : w2'.cell? ⟨w.heap.size, 1, none⟩ = some (.int .i64 (kn : Int)) := HB_t.out.2 1
        have c_t_2 : w2'.cell? ⟨w.heap.size, 2, none⟩ = some (.string (showN q)) := HB_t.out.2 2
        have c_t_3 : w2'.cell? ⟨w.heap.size, 3, none⟩ = some (.string (showD q)) := HB_t.out.2 3
        go_wp2_with fail
        refine ((by have h := chanceOf_at d d1 d3 kn pn zn on (by omega) (by omega) hpn hzn hon q HIN.out.1 HIN.out.2.1 HIN.out.2.2 w2' (HT0.out.ext HW.out); rw [HC.out] at h; exact h : Calls _ _ _ w2' (RtP w2' C))).mono ?_
        rintro e w3' ⟨rfl, hbz⟩
        replace HB_t := Lib.hid (HB_t.out.ext hbz)
        replace HF_o := Lib.hid (HF_o.out.ext HB_o.out hbz)
        replace HB_o := Lib.hid (HB_o.out.ext hbz)
        replace HW := Lib.hid (ext_trans HW.out hbz)
        clear c_t_0 c_t_1 c_t_2 c_t_3
        clear hbz
        have c_o_0 : w3'.cell? ⟨(w.heap.size + 1), 0, none⟩ = some (.string ⟨#[]⟩) := HB_o.out.2 0
        have c_o_1 : w3'.cell? ⟨(w.heap.size + 1), 1, none⟩ = some (.string ⟨#[]⟩) := HB_o.out.2 1
        have f_o_0 := HF_o.out 0
        have f_o_1 := HF_o.out 1
        have HRR := Lib.hid (res2s (.string (showN C)) (.string (showD C)) HB_o.out HW.out (show w.heap.size ≤ (w.heap.size + 1) by omega))
        obtain ⟨hbF, z0, z1⟩ := id HRR.out
        clear hbF
        go_wp2
        exact bodyPost_ret (v := .tuple #[.agg #[.string (showN C), .string (showD C)], .int .i64 0]) (by simp [results, Tryz.results19, go_sem, z0, z1]) rfl ⟨by rw [HV.out.1, HV.out.2.1, HV.out.2.2], HRR.out.1⟩
 ·have HV : Hid (chanN d k n m p z o = ⟨#[]⟩ ∧ chanD d k n m p z o = ⟨#[]⟩ ∧ chanF d k n m p z o = testF d k n m) := Lib.hid (by unfold chanN chanD chanF; rw [if_pos hf, if_pos hf, if_pos hf]; exact ⟨rfl, rfl, rfl⟩)
  have hne : (testF d k n m != 0) = true := by simp [hf]
  clear hf
  have c_o_0 : w2'.cell? ⟨(w.heap.size + 1), 0, none⟩ = some (.string ⟨#[]⟩) := HB_o.out.2 0
  have c_o_1 : w2'.cell? ⟨(w.heap.size + 1), 1, none⟩ = some (.string ⟨#[]⟩) := HB_o.out.2 1
  have f_o_0 := HF_o.out 0
  have f_o_1 := HF_o.out 1
  have HRR := Lib.hid (res2s (.string ⟨#[]⟩) (.string ⟨#[]⟩) HB_o.out HW.out (show w.heap.size ≤ (w.heap.size + 1) by omega))
  obtain ⟨hbF, z0, z1⟩ := id HRR.out
  clear hbF
  go_wp2
  exact bodyPost_ret (v := .tuple #[.agg #[.string ⟨#[]⟩, .string ⟨#[]⟩], .int .i64 (testF d k n m)]) (by simp [results, Tryz.results19, go_sem, z0, z1]) rfl ⟨by rw [HV.out.1, HV.out.2.1, HV.out.2.2], HRR.out.1⟩
def NeedPost (w : World) (r : Option Nat) (f : Int) (e : Ending) (w' : World) : Prop := e = .returned (.tuple #[.int .i64 (lnN r), .bool (lnK r), .int .i64 f]) ∧ Below w.heap.size w w'
set_option maxRecDepth 100000 in
set_option maxHeartbeats 16000000 in
theorem refNeed_at (d k : Int) (n m : ByteArray) (hn : n.size ≤ maxLen) (hm : m.size ≤ maxLen) (z o : Int) (a b : ByteArray) (ha : a.size ≤ maxLen) (hb' : b.size ≤ maxLen) (w : World) (ht : Tab w) : Calls Tryz.prog 21 #[.agg #[.int .i64 d, .int .i64 k, .string n, .string m], .int .i64 z, .int .i64 o, .agg #[.string a, .string b]] w (NeedPost w (ndO d k n m z o a b) (ndF d k n m z o a b)) := by
 obtain ⟨cf, hcf⟩ : ∃ x, chanF d k n m 0 z o = x := ⟨_, rfl⟩
 obtain ⟨cn, hcn⟩ : ∃ x, chanN d k n m 0 z o = x := ⟨_, rfl⟩
 obtain ⟨cd, hcd⟩ : ∃ x, chanD d k n m 0 z o = x := ⟨_, rfl⟩
 have HCA := Lib.hid (And.intro hcn (And.intro hcd hcf))
 clear hcf hcn hcd
 go_enter Tryz.func21, Tryz.ntmps21
 have HT0 := Lib.hid ht
 clear ht
 go_upto_region 1 with (fail)
 refine wp_box2 fun w1' hsz hbW hA0 hA1 => ?_
 clear hsz
 have HB_t := Lib.hid hA0
 have HB_x := Lib.hid hA1
 have HW := Lib.hid hbW
 clear hbW hA0 hA1
 have c_t_0 : w1'.cell? ⟨w.heap.size, 0, none⟩ = some (.int .i64 d) := HB_t.out.2 0
 have c_t_1 : w1'.cell? ⟨w.heap.size, 1, none⟩ = some (.int .i64 k) := HB_t.out.2 1
 have c_t_2 : w1'.cell? ⟨w.heap.size, 2, none⟩ = some (.string n) := HB_t.out.2 2
 have c_t_3 : w1'.cell? ⟨w.heap.size, 3, none⟩ = some (.string m) := HB_t.out.2 3
 go_wp2_with fail
 refine (refChance_at d k n m hn hm 0 z o w1' (HT0.out.ext HW.out)).mono ?_
 rintro e w2' ⟨rfl, hbz⟩
 rw [HCA.out.1, HCA.out.2.1, HCA.out.2.2]
 replace HB_t := Lib.hid (HB_t.out.ext hbz)
 replace HB_x := Lib.hid (HB_x.out.ext hbz)
 replace HW := Lib.hid (ext_trans HW.out hbz)
 clear c_t_0 c_t_1 c_t_2 c_t_3
 clear hbz
 go_upto_region 2 with (fail)
 refine wp_box1 fun w3' hsz hbz hC => ?_
 clear hsz
 have lt_t_c : w.heap.size < w2'.heap.size := HB_t.out.1
 have lt_x_c : (w.heap.size + 1) < w2'.heap.size := HB_x.out.1
 have le_c : w.heap.size ≤ w2'.heap.size := HW.out.size
 replace HB_t := Lib.hid (HB_t.out.ext hbz)
 replace HB_x := Lib.hid (HB_x.out.ext hbz)
 replace HW := Lib.hid (ext_trans HW.out hbz)
 clear hbz
 have HB_c := Lib.hid hC
 clear hC
 generalize w2'.heap.size = b_c at *
 clear HB_c
 by_cases hf : cf = 0
 ·have hne : (cf != 0) = false := by simp [hf]
  have HG := Lib.hid (nd_good (d := d) (k := k) (n := n) (m := m) (z := z) (o := o) (a := a) (b := b) (HCA.out.2.2.trans hf))
  clear hf
  have c_x_0 : w3'.cell? ⟨(w.heap.size + 1), 0, none⟩ = some (.string a) := HB_x.out.2 0
  have c_x_1 : w3'.cell? ⟨(w.heap.size + 1), 1, none⟩ = some (.string b) := HB_x.out.2 1
  go_wp2_with fail
  refine (isMiss_at a b ha hb' w3' (HT0.out.ext HW.out)).mono ?_
  rintro e w4' ⟨rfl, hbz⟩
  replace HB_t := Lib.hid (HB_t.out.ext hbz)
  replace HB_x := Lib.hid (HB_x.out.ext hbz)
  replace HW := Lib.hid (ext_trans HW.out hbz)
  clear c_x_0 c_x_1
  clear hbz
  by_cases hm9 : missF a b = 0
  ·have hne2 : (missF a b != 0) = false := by simp [hm9]
   obtain ⟨hf, hr, hnf⟩ := HG.out
   obtain ⟨d1, d3, k1, k5, hmi⟩ := test_ok hf
   obtain ⟨q, hq, hrq, rfl, rfl, h0, h1q, hlq⟩ := miss_parts hmi
   obtain ⟨x, hx, hrx, rfl, rfl, x0, x1q, xlq⟩ := miss_parts hm9
   unfold ndR at hr
   obtain ⟨kn, rfl⟩ : ∃ x : Nat, k = (x : Int) := ⟨k.toNat, by omega⟩
   obtain ⟨zn, rfl⟩ : ∃ x : Nat, z = (x : Int) := ⟨z.toNat, by omega⟩
   obtain ⟨on, rfl⟩ : ∃ x : Nat, o = (x : Int) := ⟨o.toNat, by omega⟩
   have hzn : zn ≤ 1000 := by omega
   have hon : on ≤ 1000 := by omega
   obtain ⟨res, hres⟩ : ∃ r, lnFind (ndDec d kn q⁻¹ zn on x) 0 9 = r := ⟨_, rfl⟩
   have HO : Hid (ndF d (kn : Int) (showN q) (showD q) (zn : Int) (on : Int) (showN x) (showD x) = 0 ∧ ndO d (kn : Int) (showN q) (showD q) (zn : Int) (on : Int) (showN x) (showD x) = res) := Lib.hid ⟨hnf.trans hm9, by unfold ndO; rw [if_pos (hnf.trans hm9), hrq, hrx]; exact hres⟩
   have HFI : Hid (lnFind (ndDec d kn q⁻¹ zn on x) 1 (9 - 1) = res) := Lib.hid (by rw [← hres]; exact (lnFind_step (nd_zero x0)).symm)
   have HIN := Lib.hid (And.intro hq (And.intro h0 hlq))
   have HX := Lib.hid hx
   clear hf hr hnf hmi hq hrq h0 h1q hlq hx hrx x0 x1q xlq hres hm9 HG HCA hn hm ha hb'
   go_wp2
   go_loopw [14] (fun i' wr => ∃ i : Nat, 1 ≤ i ∧ i ≤ 9 ∧ i' = .int .i64 (i : Int) ∧ Hid (lnFind (ndDec d kn q⁻¹ zn on x) i (9 - i) = res) ∧ (Box wr w.heap.size #[.int .i64 d, .int .i64 (kn : Int), .string (showN q), .string (showD q)]) ∧ (Box wr (w.heap.size + 1) #[.string (showN (x)), .string (showD (x))]) ∧ (Below w.heap.size w wr)) (fun i' _ => 9 - (intOf i').toNat)
   case atStart => exact ⟨1, by omega, by omega, rfl, HFI, HB_t.out, HB_x.out, HW.out⟩
   case round =>
    obtain ⟨i, hi1, hi, rfl, HFJ, q_HB_t, q_HB_x, q_HW⟩ := hrel
    clear HB_t HB_x HW
    clear HFI
    have HB_t := Lib.hid q_HB_t
    have HB_x := Lib.hid q_HB_x
    have HW := Lib.hid q_HW
    clear q_HB_t q_HB_x q_HW
    generalize hX : wr = Y at *
    clear hX
    by_cases hlt : i ≤ 8
    ·obtain ⟨k9, hk9⟩ : ∃ x, 9 - i = x + 1 := ⟨8 - i, by omega⟩
     have HK9 : Hid (9 - (i + 1) = k9) := Lib.hid (by omega)
     rw [hk9] at HFJ
     clear hk9
     obtain ⟨C, hC⟩ : ∃ C, chQ d kn q⁻¹ i zn on i = C := ⟨_, rfl⟩
     obtain ⟨r, hr⟩ : ∃ r, ndDec d kn q⁻¹ zn on x i = r := ⟨_, rfl⟩
     obtain ⟨s, hs⟩ : ∃ s, decide (C < x) = s := ⟨_, rfl⟩
     have HR : Hid ((!s) = r) := Lib.hid (by rw [← hr, ← nd_less hlt, hC, hs])
     have HRR := Lib.hid hr
     have HS := Lib.hid hs
     have HC := Lib.hid hC
     have HCF : Hid (Fits C) := Lib.hid (by rw [← hC]; exact chQ_fits _ _ _ hlt hlt hzn hon)
     clear hr hs hC
     have hi8 : (i : Int) ≤ 8 := by omega
     have c_t_0 : Y.cell? ⟨w.heap.size, 0, none⟩ = some (.int .i64 d) := HB_t.out.2 0
     have c_t_1 : Y.cell? ⟨w.heap.size, 1, none⟩ = some (.int .i64 (kn : Int)) := HB_t.out.2 1
     have c_t_2 : Y.cell? ⟨w.heap.size, 2, none⟩ = some (.string (showN q)) := HB_t.out.2 2
     have c_t_3 : Y.cell? ⟨w.heap.size, 3, none⟩ = some (.string (showD q)) := HB_t.out.2 3
     have c_x_0 : Y.cell? ⟨(w.heap.size + 1), 0, none⟩ = some (.string (showN (x))) := HB_x.out.2 0
     have c_x_1 : Y.cell? ⟨(w.heap.size + 1), 1, none⟩ = some (.string (showD (x))) := HB_x.out.2 1
     go_upto_region 10 with (fail)
     refine Grow.wp_region_grow 7 [TP.eq (.agg #[.int .i64 d, .int .i64 (kn : Int), .string (showN q), .string (showD q)]), TP.eq (.int .i64 (i : Int)), TP.eq (.int .i64 (zn : Int)), TP.eq (.int .i64 (on : Int)), TP.eq (rtV C), TP.eq (rtV x), TP.eq (.bool s)] [[], [], [], [], [0, 1, 2, 3], [], [4, 5]] (by kernel_rfl) (by kernel_rfl) ⟨?o0n, ?o1n, ?o2n, ?o3n, ?o4n, ?o5n, ?o6n, trivial⟩ ?_
     case o0n =>
      intro w' hb
      have c_t_0' := zzc hb c_t_0
      have c_t_1' := zzc hb c_t_1
      have c_t_2' := zzc hb c_t_2
      have c_t_3' := zzc hb c_t_3
      show wpList _ _ _ _ _ _
      go_wp2
      exact ⟨rfl, Below.refl _ _, rfl⟩
     case o1n =>
      intro w' hb
      show wpList _ _ _ _ _ _
      go_wp2
      exact ⟨rfl, Below.refl _ _, rfl⟩
     case o2n =>
      intro w' hb
      show wpList _ _ _ _ _ _
      go_wp2
      exact ⟨rfl, Below.refl _ _, rfl⟩
     case o3n =>
      intro w' hb
      show wpList _ _ _ _ _ _
      go_wp2
      exact ⟨rfl, Below.refl _ _, rfl⟩
     case o4n =>
      intro w' hb v1 hv1 v2 hv2 v3 hv3 v4 hv4
      obtain rfl : v1 = _ := hv1
      obtain rfl : v2 = _ := hv2
      obtain rfl : v3 = _ := hv3
      obtain rfl : v4 = _ := hv4
      show wpList _ _ _ _ _ _
      simp only [Grow.dstOf, zz1, zz2, zz3, zz4, Act.put, zz5, zz6, zz7]
      go_wp2_with fail
      refine ((by have h := chanceOf_at d d1 d3 kn i zn on (by omega) (by omega) hlt hzn hon q HIN.out.1 HIN.out.2.1 HIN.out.2.2 w' (HT0.out.ext (ext_trans HW.out hb)); rw [HC.out] at h; exact h : Calls _ _ _ w' (RtP w' C))).mono ?_
      rintro e wz ⟨rfl, hbz⟩
      go_wp2
      exact ⟨rfl, hbz, rfl⟩
     case o5n =>
      intro w' hb
      have c_x_0' := zzc hb c_x_0
      have c_x_1' := zzc hb c_x_1
      show wpList _ _ _ _ _ _
      go_wp2
      exact ⟨rfl, Below.refl _ _, rfl⟩
     case o6n =>
      intro w' hb v1 hv1 v2 hv2
      obtain rfl : v1 = _ := hv1
      obtain rfl : v2 = _ := hv2
      show wpList _ _ _ _ _ _
      simp only [Grow.dstOf, zz1, zz2, zz3, zz4, Act.put, zz5, zz6, zz7]
      go_wp2_with fail
      refine (less_is C x s HS.out HCF.out HX.out w' (HT0.out.ext (ext_trans HW.out hb))).mono ?_
      rintro e wz ⟨rfl, hbz⟩
      go_wp2
      exact ⟨rfl, hbz, rfl⟩
     intro w5' hbz u0 hu0 u1 hu1 u2 hu2 u3 hu3 u4 hu4 u5 hu5 u6 hu6
     obtain rfl : u6 = _ := hu6
     clear hu0 hu1 hu2 hu3 hu4 hu5
     replace HB_t := Lib.hid (HB_t.out.ext hbz)
     replace HB_x := Lib.hid (HB_x.out.ext hbz)
     replace HW := Lib.hid (ext_trans HW.out hbz)
     clear c_t_0 c_t_1 c_t_2 c_t_3 c_x_0 c_x_1
     clear hbz
     show wpList _ _ _ _ _ _
     simp only [Act.put, zz5, zz6, zz7]
     cases s
     ·obtain rfl : r = true := by rw [← HR.out]; rfl
      have HV : Hid (res = some i) := Lib.hid (by rw [← HFJ.out]; exact lnFind_hit HRR.out)
      go_wp2
      exact bodyPost_ret (v := .tuple #[.int .i64 (i : Int), .bool true, .int .i64 0]) (by simp [results, Tryz.results21, go_sem]) rfl ⟨by rw [HO.out.1, HO.out.2, HV.out]; rfl, HW.out⟩
     ·obtain rfl : r = false := by rw [← HR.out]; rfl
      have HV : Hid (lnFind (ndDec d kn q⁻¹ zn on x) (i + 1) (9 - (i + 1)) = res) := Lib.hid (by rw [HK9.out, ← HFJ.out]; exact (lnFind_step HRR.out).symm)
      have e8 : IntKind.i64.wrap ((i : Int) + 1) = (i : Int) + 1 := IntWalk.i64_in _ (by omega)
      go_wp2
      go_roundw
      case rel => exact ⟨i + 1, by omega, by omega, by go_num, HV, HB_t.out, HB_x.out, HW.out⟩
      case measure => simp [intOf]; omega
    ·have hi9 : i = 9 := by omega
     subst hi9
     have HV : Hid (res = none) := Lib.hid HFJ.out.symm
     go_wp2
     exact bodyPost_ret (v := .tuple #[.int .i64 0, .bool false, .int .i64 0]) (by simp [results, Tryz.results21, go_sem]) rfl ⟨by rw [HO.out.1, HO.out.2, HV.out]; rfl, HW.out⟩
  ·have HO : Hid (ndF d k n m z o a b = missF a b ∧ ndO d k n m z o a b = none) := Lib.hid ⟨HG.out.2.2, by unfold ndO; rw [if_neg (by rw [HG.out.2.2]; exact hm9)]⟩
   have hne2 : (missF a b != 0) = true := by simp [hm9]
   clear hm9
   go_wp2
   exact bodyPost_ret (v := .tuple #[.int .i64 0, .bool false, .int .i64 (missF a b)]) (by simp [results, Tryz.results21, go_sem]) rfl ⟨by rw [HO.out.1, HO.out.2]; rfl, HW.out⟩
 ·have HO : Hid (ndF d k n m z o a b = cf ∧ ndO d k n m z o a b = none) := Lib.hid (by have h := nd_bad (d := d) (k := k) (n := n) (m := m) (z := z) (o := o) (a := a) (b := b) (by rw [HCA.out.2.2]; exact hf) chan_zero; rw [HCA.out.2.2] at h; exact h)
  have hne : (cf != 0) = true := by simp [hf]
  clear hf
  go_wp2
  exact bodyPost_ret (v := .tuple #[.int .i64 0, .bool false, .int .i64 (cf)]) (by simp [results, Tryz.results21, go_sem]) rfl ⟨by rw [HO.out.1, HO.out.2]; rfl, HW.out⟩
end Nt
end Go.Proofs.YtilolnjbpokdnaaGreatDoor
