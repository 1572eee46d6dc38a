/- power, nearest, places, Decimal of the reference. Printed by gen_rdecimal.py. -/
import Derived.Test.YtmnmepbljegjeaaGreatDoorBa23
import Derived.Test.YtmnmepbljegjeaaGreatDoorBa57
namespace Go.Proofs.YtmnmepbljegjeaaGreatDoor
open Go.RowKit
namespace Nt
open _root_.Go.Proofs.YtmnmepbljegjeaaGreatDoor.Nm (rF rQ decS decv Digs dcQ dcQ_ref dcT dcB dcDot dcPad dcPad_big dcPad_len dcmF dcmQ dcmS DcmPost cutS cutB decv_append decS_length decS_ne lt_of_decS FPost tail_none)
theorem strOf_nm (l : List UInt8) : Nm.strOf l = strOf l := rfl
def TP.num2 (n m : Nat) : TP := ⟨fun w v => ∃ v1 v2, v = .tuple #[v1, v2] ∧ N w v1 n ∧ N w v2 m, fun _ _ _ hb ⟨v1, v2, h, h1, h2⟩ => ⟨v1, v2, h, h1.ext hb, h2.ext hb⟩⟩
theorem digits_ten (p : Nat) : Digs (49 :: List.replicate p 48) ∧ decv (49 :: List.replicate p 48) = 10 ^ p := by
  constructor
  · intro c hc
    rcases List.mem_cons.1 hc with rfl | hc
    · decide
    · rw [List.eq_of_mem_replicate hc]; decide
  · have := decv_append [49] (List.replicate p 48)
    rw [decv_zeros, List.length_replicate] at this
    have h1 : decv [49] = 1 := by decide
    rw [h1] at this
    simpa using this
theorem cat49 (l : List UInt8) : (⟨#[49]⟩ : ByteArray) ++ strOf l = strOf (49 :: l) := by
  apply ByteArray.ext
  rw [ByteArray.data_append]
  simp [strOf]
theorem rep_at (n : Nat) (hn : n ≤ 1000) (S : ByteArray) (hS : S = strOf (List.replicate n 48)) (z : Int) (hz : z = (n : Int)) (w : World) : Calls Tryz.prog 97 #[.string ⟨#[48]⟩, .int .i64 z] w (fun e w' => e = .returned (.string S) ∧ Below w.heap.size w w') := by
  subst hS hz; exact zeros_at n (by omega) w
theorem wlen_ten {a i : Nat} (ha : wlen a ≤ 4000) (hi : i ≤ 31) : wlen (10 ^ i) ≤ 32 ∧ wlen (a * 10 ^ i) ≤ 4100 := by
  have h1 := wlen_mul a (10 ^ i)
  have h2 : wlen (10 ^ i) ≤ i + 1 := by
    have hb : 10 ^ i < 10 ^ (i + 1) := Nat.pow_lt_pow_right (by decide) (by omega)
    exact wlen_le (Nat.lt_of_lt_of_le hb (Nat.pow_le_pow_left (show 10 ≤ B by decide) _))
  exact ⟨by omega, by omega⟩
theorem dec_of_wlen9 {n k : Nat} (h : wlen n ≤ k) (hk : 1 ≤ k) : (decS n).length ≤ 10 * k := by
  refine decS_length ?_ (by omega)
  refine Nat.lt_of_lt_of_le (lt_pow_wlen n) (Nat.le_trans (Nat.pow_le_pow_right B_pos h) ?_)
  refine Nat.le_trans (Nat.pow_le_pow_left (show B ≤ 10 ^ 10 by decide) k) ?_
  rw [← Nat.pow_mul]
  exact Nat.le_refl _
theorem wlen_one9 : wlen 1 ≤ 1 := wlen_le (show 1 < B ^ 1 by decide)
theorem digs_zero_iff {Q : Nat} : (digs Q).length = 0 ↔ Q = 0 := by
  constructor
  · intro h
    by_cases hq : Q = 0
    · exact hq
    · exfalso
      unfold digs at h
      rw [dif_neg hq] at h
      simp at h
  · rintro rfl
    rw [digs_zero]; rfl
theorem cmpN_ge {x y : Nat} : 0 ≤ cmpN x y ↔ y ≤ x := by
  by_cases h : x < y
  · rw [cmpN_lt h]; omega
  · by_cases h2 : y < x
    · rw [cmpN_gt h2]; omega
    · rw [cmpN_eq (by omega)]; omega
set_option maxRecDepth 100000 in
set_option maxHeartbeats 4000000 in
theorem power_at (p : Nat) (hp : p ≤ 30) (w : World) : Calls Tryz.prog 163 #[.int .i64 (p : Int)] w (NPost w (10 ^ p)) := by
  obtain ⟨Z, hZ⟩ : ∃ Z, Z = strOf (List.replicate p 48) := ⟨_, rfl⟩
  have HZ := Lib.hid hZ
  obtain ⟨S, hS⟩ : ∃ S, ⟨#[49]⟩ ++ Z = S := ⟨_, rfl⟩
  obtain ⟨P, hP⟩ : ∃ P, 10 ^ p = P := ⟨_, rfl⟩
  rw [hP]
  have HD : Hid (Digs S.data.toList ∧ decv S.data.toList = P ∧ S.size ≤ 1000) := Lib.hid (by
    rw [← hS, ← hP, hZ, cat49]
    exact ⟨(digits_ten p).1, (digits_ten p).2, by rw [strOf_size, List.length_cons, List.length_replicate]; omega⟩)
  have hzs : Z.size = p := by rw [hZ, strOf_size, List.length_replicate]
  have HS := Lib.hid hS
  clear hZ hS hP
  go_enter Tryz.func163, Tryz.ntmps163
  go_wp2_with fail
  refine (rep_at p (by omega) Z HZ.out _ rfl w).mono ?_
  rintro e w1' ⟨rfl, hbz⟩
  have HW := Lib.hid hbz
  clear hbz
  go_wp2_with fail
  rw [HS.out]
  skip
  refine (readNatural_at S HD.out.1 (by have := HD.out.2.2; omega) w1').mono ?_
  rintro e w2' ⟨v, rfl, hv, hbz⟩
  rw [HD.out.2.1] at hv
  have HV := Lib.hid hv
  clear hv
  replace HW := Lib.hid (ext_trans HW.out hbz)
  clear hbz
  obtain ⟨a9, c9, rfl, _⟩ := HV.out.open_
  go_wp2
  exact bodyPost_ret (v := .slice a9 (digs P).length c9) (by simp [results, Tryz.results163, go_sem]) rfl ⟨_, rfl, HV.out, HW.out⟩
set_option maxRecDepth 100000 in
set_option maxHeartbeats 16000000 in
theorem nearest_at (n d : ByteArray) (hn : n.size ≤ maxLen) (hz : rF n d = 0) (p : Nat) (hp : p ≤ 30) (w : World) : Calls Tryz.prog 99 #[.agg #[.string n, .string d], .int .i64 (p : Int)] w (FrPost w (decide ((rQ n d).num < 0) && decide (0 < dcQ (rQ n d).num.natAbs (rQ n d).den p)) (dcQ (rQ n d).num.natAbs (rQ n d).den p) 1) := by
  have hsm := small_digs9 hz
  have hden : 0 < (rQ n d).den := (rQ n d).den_pos
  have HOP : Hid (∀ w', Calls Tryz.prog 84 #[.agg #[.string n, .string d]] w' (FrPost w' (decide ((rQ n d).num < 0)) (rQ n d).num.natAbs (rQ n d).den)) := Lib.hid (open_is n d hn hz)
  generalize (rQ n d).num.natAbs = A at *
  generalize (rQ n d).den = D at *
  generalize decide ((rQ n d).num < 0) = bb at *
  obtain ⟨hA4, hD4⟩ := hsm
  obtain ⟨hT1, hT2⟩ := wlen_ten hA4 (show p ≤ 31 by omega)
  obtain ⟨q, hq⟩ : ∃ q, A * 10 ^ p / D = q := ⟨_, rfl⟩
  obtain ⟨r, hr⟩ : ∃ r, A * 10 ^ p % D = r := ⟨_, rfl⟩
  have hrD : r < D := by rw [← hr]; exact Nat.mod_lt _ hden
  have HQ : Hid (dcQ A D p = q + (if D ≤ r + r then 1 else 0)) := Lib.hid (by rw [dcQ_ref hden, hq, hr])
  have wq : wlen q ≤ 4100 := by rw [← hq]; exact Nat.le_trans (wlen_mono (Nat.div_le_self _ _)) (by omega)
  have wr9 : wlen r ≤ 4000 := Nat.le_trans (wlen_mono (Nat.le_of_lt hrD)) hD4
  have HQR := Lib.hid (And.intro hq hr)
  obtain ⟨T, hT⟩ : ∃ T, A * 10 ^ p = T := ⟨_, rfl⟩
  obtain ⟨P, hP⟩ : ∃ P, 10 ^ p = P := ⟨_, rfl⟩
  rw [hT] at HQR hT2
  have HTP : Hid (A * P = T) := Lib.hid (by rw [← hP]; exact hT)
  have HPW : Hid (∀ w', Calls Tryz.prog 163 #[.int .i64 (p : Int)] w' (NPost w' P)) := Lib.hid (by rw [← hP]; exact power_at p hp)
  rw [hP] at hT1
  clear hq hr hT hP hz
  go_enter Tryz.func99, Tryz.ntmps99
  go_upto_region 1 with (fail)
  refine wp_box2r fun w1' hsz hbW hA0 hC hF => ?_
  clear hsz
  have HB_r := Lib.hid hA0
  have HB_o := Lib.hid hC
  have HF_o := Lib.hid hF
  have HW := Lib.hid hbW
  clear hbW hA0 hC hF
  have c_r_0 : w1'.cell? ⟨w.heap.size, 0, none⟩ = some (.string n) := HB_r.out.2 0
  have c_r_1 : w1'.cell? ⟨w.heap.size, 1, none⟩ = some (.string d) := HB_r.out.2 1
  go_wp2_with fail
  refine (HOP.out w1').mono ?_
  rintro e w2' ⟨v1, v2, rfl, hN1, hN2, hbz⟩
  obtain ⟨a1, c1, rfl, _⟩ := hN1.open_
  obtain ⟨a2, c2, rfl, _⟩ := hN2.open_
  generalize (digs A).length = m1 at *
  generalize (digs D).length = m2 at *
  have HNA := Lib.hid hN1
  have HND := Lib.hid hN2
  clear hN1 hN2
  replace HB_r := Lib.hid (HB_r.out.ext hbz)
  replace HF_o := Lib.hid (HF_o.out.ext HB_o.out hbz)
  replace HB_o := Lib.hid (HB_o.out.ext hbz)
  replace HW := Lib.hid (ext_trans HW.out hbz)
  clear c_r_0 c_r_1
  clear hbz
  go_upto_region 2 with (fail)
  refine wp_box1 fun w3' hsz hbz hC => ?_
  clear hsz
  have lt_r_x : w.heap.size < w2'.heap.size := HB_r.out.1
  have lt_o_x : w.heap.size + 1 < w2'.heap.size := HB_o.out.1
  have le_x : w.heap.size ≤ w2'.heap.size := HW.out.size
  replace HB_r := Lib.hid (HB_r.out.ext hbz)
  replace HF_o := Lib.hid (HF_o.out.ext HB_o.out hbz)
  replace HB_o := Lib.hid (HB_o.out.ext hbz)
  replace HNA := Lib.hid (HNA.out.ext hbz)
  replace HND := Lib.hid (HND.out.ext hbz)
  replace HW := Lib.hid (ext_trans HW.out hbz)
  clear hbz
  have HB_x := Lib.hid hC
  clear hC
  generalize w2'.heap.size = b_x at *
  have c_x_0 : w3'.cell? ⟨b_x, 0, none⟩ = some (.bool bb) := HB_x.out.2 0
  have c_x_1 : w3'.cell? ⟨b_x, 1, none⟩ = some (.slice a1 m1 c1) := HB_x.out.2 1
  have c_x_2 : w3'.cell? ⟨b_x, 2, none⟩ = some (.slice a2 m2 c2) := HB_x.out.2 2
  skip
  refine Grow.wp_region_growr 13 [TP.eq (.pointer (some ⟨b_x, 1, none⟩)), TP.eq (.slice a1 m1 c1), TP.eq (.int .i64 (p : Int)), TP.nat P, TP.nat T, TP.eq (.pointer (some ⟨b_x, 2, none⟩)), TP.eq (.slice a2 m2 c2), TP.num2 (T / D) (T % D), TP.num2 (T / D) (T % D), TP.nat (T / D), TP.nat (T % D), TP.nat (T / D), TP.nat (T % D)] [[], [0], [], [2], [1, 3], [], [5], [4, 6], [7], [8], [8], [9], [10]] [0, 1, 2, 3, 4, 5, 6, 7, 8, 9, 11, 10, 12] (by kernel_rfl) (by kernel_rfl) ⟨?o0nr, ?o1nr, ?o2nr, ?o3nr, ?o4nr, ?o5nr, ?o6nr, ?o7nr, ?o8nr, ?o9nr, ?o10nr, ?o11nr, ?o12nr, trivial⟩ ?_
  case o0nr =>
    intro w' hb
    show wpList _ _ _ _ _ _
    go_wp2
    exact ⟨rfl, Below.refl _ _, rfl⟩
  case o1nr =>
    intro w' hb v1 hv1
    obtain rfl : v1 = _ := hv1
    have c_x_1' : w'.cell? ⟨b_x, 1, none⟩ = some (.slice a1 m1 c1) := (hb.cell (World.block_lt_of_cell? _ _ c_x_1)).trans c_x_1
    show wpList _ _ _ _ _ _
    simp only [Grow.dstOf, List.getElem?_toArray, List.getElem?_cons_zero, Option.bind_some, Act.put, List.setIfInBounds_toArray, List.set_cons_succ, List.set_cons_zero]
    go_wp2
    exact ⟨rfl, Below.refl _ _, rfl⟩
  case o2nr =>
    intro w' hb
    show wpList _ _ _ _ _ _
    go_wp2
    exact ⟨rfl, Below.refl _ _, rfl⟩
  case o3nr =>
    intro w' hb v1 hv1
    obtain rfl : v1 = _ := hv1
    show wpList _ _ _ _ _ _
    simp only [Grow.dstOf, List.getElem?_toArray, List.getElem?_cons_succ, List.getElem?_cons_zero, Option.bind_some, Act.put, List.setIfInBounds_toArray, List.set_cons_succ, List.set_cons_zero]
    go_wp2_with fail
    refine (HPW.out w').mono ?_
    rintro e wz ⟨vz, rfl, hxz, hbz⟩
    go_wp2
    exact ⟨hxz, hbz, rfl⟩
  case o4nr =>
    intro w' hb v1 hv1 v2 hv2
    obtain rfl : v1 = _ := hv1
    have hv2' : N w' v2 P := hv2
    clear hv2
    obtain ⟨m82, c82, rfl, _⟩ := hv2'.open_
    show wpList _ _ _ _ _ _
    simp only [Grow.dstOf, List.getElem?_toArray, List.getElem?_cons_succ, List.getElem?_cons_zero, Option.bind_some, Act.put, List.setIfInBounds_toArray, List.set_cons_succ, List.set_cons_zero]
    go_wp2_with fail
    refine (times_at A P _ _ w' (HNA.out.ext hb) hv2' (by omega) (by omega)).mono ?_
    rw [HTP.out]
    rintro e wz ⟨vz, rfl, hxz, hbz⟩
    go_wp2
    exact ⟨hxz, hbz, rfl⟩
  case o5nr =>
    intro w' hb
    show wpList _ _ _ _ _ _
    go_wp2
    exact ⟨rfl, Below.refl _ _, rfl⟩
  case o6nr =>
    intro w' hb v1 hv1
    obtain rfl : v1 = _ := hv1
    have c_x_2' : w'.cell? ⟨b_x, 2, none⟩ = some (.slice a2 m2 c2) := (hb.cell (World.block_lt_of_cell? _ _ c_x_2)).trans c_x_2
    show wpList _ _ _ _ _ _
    simp only [Grow.dstOf, List.getElem?_toArray, List.getElem?_cons_succ, List.getElem?_cons_zero, Option.bind_some, Act.put, List.setIfInBounds_toArray, List.set_cons_succ, List.set_cons_zero]
    go_wp2
    exact ⟨rfl, Below.refl _ _, rfl⟩
  case o7nr =>
    intro w' hb v1 hv1 v2 hv2
    have hv1' : N w' v1 T := hv1
    clear hv1
    obtain rfl : v2 = _ := hv2
    obtain ⟨m81, c81, rfl, _⟩ := hv1'.open_
    show wpList _ _ _ _ _ _
    simp only [Grow.dstOf, List.getElem?_toArray, List.getElem?_cons_succ, List.getElem?_cons_zero, Option.bind_some, Act.put, List.setIfInBounds_toArray, List.set_cons_succ, List.set_cons_zero]
    go_wp2_with fail
    refine (divide_at T D _ _ w' hv1' (HND.out.ext hb) (by omega) hden).mono ?_
    rintro e wz ⟨vz, vz2, rfl, hxz, hxz2, hbz⟩
    go_wp2
    exact ⟨⟨_, _, rfl, hxz, hxz2⟩, hbz, rfl⟩
  case o8nr =>
    intro w' hb v1 hv1
    have hv1' : ∃ x1 x2, v1 = .tuple #[x1, x2] ∧ N w' x1 (T / D) ∧ N w' x2 (T % D) := hv1
    clear hv1
    obtain ⟨vq, vr, rfl, hnq, hnr⟩ := hv1'
    show wpList _ _ _ _ _ _
    simp only [Grow.dstOf, List.getElem?_toArray, List.getElem?_cons_succ, List.getElem?_cons_zero, Option.bind_some, Act.put, List.setIfInBounds_toArray, List.set_cons_succ, List.set_cons_zero]
    go_wp2
    exact ⟨⟨_, _, rfl, hnq, hnr⟩, Below.refl _ _, rfl⟩
  case o9nr =>
    intro w' hb v1 hv1
    have hv1' : ∃ x1 x2, v1 = .tuple #[x1, x2] ∧ N w' x1 (T / D) ∧ N w' x2 (T % D) := hv1
    clear hv1
    obtain ⟨vq, vr, rfl, hnq, hnr⟩ := hv1'
    show wpList _ _ _ _ _ _
    simp only [Grow.dstOf, List.getElem?_toArray, List.getElem?_cons_succ, List.getElem?_cons_zero, Option.bind_some, Act.put, List.setIfInBounds_toArray, List.set_cons_succ, List.set_cons_zero]
    go_wp2
    exact ⟨hnq, Below.refl _ _, rfl⟩
  case o10nr =>
    intro w' hb v1 hv1
    have hv1' : ∃ x1 x2, v1 = .tuple #[x1, x2] ∧ N w' x1 (T / D) ∧ N w' x2 (T % D) := hv1
    clear hv1
    obtain ⟨vq, vr, rfl, hnq, hnr⟩ := hv1'
    show wpList _ _ _ _ _ _
    simp only [Grow.dstOf, List.getElem?_toArray, List.getElem?_cons_succ, List.getElem?_cons_zero, Option.bind_some, Act.put, List.setIfInBounds_toArray, List.set_cons_succ, List.set_cons_zero]
    go_wp2
    exact ⟨hnr, Below.refl _ _, rfl⟩
  case o11nr =>
    intro w' hb v1 hv1
    have hv1' : N w' v1 (T / D) := hv1
    clear hv1
    show wpList _ _ _ _ _ _
    simp only [Grow.dstOf, List.getElem?_toArray, List.getElem?_cons_succ, List.getElem?_cons_zero, Option.bind_some, Act.put, List.setIfInBounds_toArray, List.set_cons_succ, List.set_cons_zero]
    go_wp2
    exact ⟨hv1', Below.refl _ _, rfl⟩
  case o12nr =>
    intro w' hb v1 hv1
    have hv1' : N w' v1 (T % D) := hv1
    clear hv1
    show wpList _ _ _ _ _ _
    simp only [Grow.dstOf, List.getElem?_toArray, List.getElem?_cons_succ, List.getElem?_cons_zero, Option.bind_some, Act.put, List.setIfInBounds_toArray, List.set_cons_succ, List.set_cons_zero]
    go_wp2
    exact ⟨hv1', Below.refl _ _, rfl⟩
  intro w4' hbz u0 hu0 u1 hu1 u2 hu2 u3 hu3 u4 hu4 u5 hu5 u6 hu6 u7 hu7 u8 hu8 u9 hu9 u10 hu10 u11 hu11 u12 hu12
  have hq9 : N w4' u11 (T / D) := hu11
  have hr9 : N w4' u12 (T % D) := hu12
  rw [HQR.out.1] at hq9
  rw [HQR.out.2] at hr9
  have HNQ := Lib.hid hq9
  have HNR := Lib.hid hr9
  obtain ⟨aq, cq, rfl, _⟩ := hq9.open_
  obtain ⟨ar, cr, rfl, _⟩ := hr9.open_
  have hdq := digs_zero_iff (Q := q)
  generalize (digs q).length = mq at *
  generalize (digs r).length = mr at *
  clear hq9 hr9 hu0 hu1 hu2 hu3 hu4 hu5 hu6 hu7 hu8 hu9 hu10 hu11 hu12
  clear HNA
  replace HB_r := Lib.hid (HB_r.out.ext hbz)
  replace HF_o := Lib.hid (HF_o.out.ext HB_o.out hbz)
  replace HB_o := Lib.hid (HB_o.out.ext hbz)
  replace HB_x := Lib.hid (HB_x.out.ext hbz)
  replace HND := Lib.hid (HND.out.ext hbz)
  replace HW := Lib.hid (ext_trans HW.out hbz)
  clear c_x_0 c_x_1 c_x_2
  clear hbz
  refine tail_none (P := Tryz.prog) (ops := #[]) ?_
  simp only [Act.put, List.setIfInBounds_toArray, List.set_cons_succ, List.set_cons_zero]
  have c_x_0 : w4'.cell? ⟨b_x, 0, none⟩ = some (.bool bb) := HB_x.out.2 0
  have c_x_1 : w4'.cell? ⟨b_x, 1, none⟩ = some (.slice a1 m1 c1) := HB_x.out.2 1
  have c_x_2 : w4'.cell? ⟨b_x, 2, none⟩ = some (.slice a2 m2 c2) := HB_x.out.2 2
  go_upto_region 3 with (fail)
  refine Grow.wp_region_grow 6 [TP.eq (.slice ar mr cr), TP.eq (.slice ar mr cr), TP.nat (r + r), TP.eq (.pointer (some ⟨b_x, 2, none⟩)), TP.eq (.slice a2 m2 c2), TP.eq (.int .i64 (cmpN (r + r) D))] [[], [], [0, 1], [], [3], [2, 4]] (by kernel_rfl) (by kernel_rfl) ⟨?o0nn, ?o1nn, ?o2nn, ?o3nn, ?o4nn, ?o5nn, trivial⟩ ?_
  case o0nn =>
    intro w' hb
    show wpList _ _ _ _ _ _
    go_wp2
    exact ⟨rfl, Below.refl _ _, rfl⟩
  case o1nn =>
    intro w' hb
    show wpList _ _ _ _ _ _
    go_wp2
    exact ⟨rfl, Below.refl _ _, rfl⟩
  case o2nn =>
    intro w' hb v1 hv1 v2 hv2
    obtain rfl : v1 = _ := hv1
    obtain rfl : v2 = _ := hv2
    show wpList _ _ _ _ _ _
    simp only [Grow.dstOf, List.getElem?_toArray, List.getElem?_cons_succ, List.getElem?_cons_zero, Option.bind_some, Act.put, List.setIfInBounds_toArray, List.set_cons_succ, List.set_cons_zero]
    go_wp2_with fail
    refine (plus_at r r _ _ w' (HNR.out.ext hb) (HNR.out.ext hb) (by omega) (by omega)).mono ?_
    rintro e wz ⟨vz, rfl, hxz, hbz⟩
    go_wp2
    exact ⟨hxz, hbz, rfl⟩
  case o3nn =>
    intro w' hb
    show wpList _ _ _ _ _ _
    go_wp2
    exact ⟨rfl, Below.refl _ _, rfl⟩
  case o4nn =>
    intro w' hb v1 hv1
    obtain rfl : v1 = _ := hv1
    have c_x_2' : w'.cell? ⟨b_x, 2, none⟩ = some (.slice a2 m2 c2) := (hb.cell (World.block_lt_of_cell? _ _ c_x_2)).trans c_x_2
    show wpList _ _ _ _ _ _
    simp only [Grow.dstOf, List.getElem?_toArray, List.getElem?_cons_succ, List.getElem?_cons_zero, Option.bind_some, Act.put, List.setIfInBounds_toArray, List.set_cons_succ, List.set_cons_zero]
    go_wp2
    exact ⟨rfl, Below.refl _ _, rfl⟩
  case o5nn =>
    intro w' hb v1 hv1 v2 hv2
    have hv1' : N w' v1 (r + r) := hv1
    clear hv1
    obtain rfl : v2 = _ := hv2
    obtain ⟨m81, c81, rfl, _⟩ := hv1'.open_
    show wpList _ _ _ _ _ _
    simp only [Grow.dstOf, List.getElem?_toArray, List.getElem?_cons_succ, List.getElem?_cons_zero, Option.bind_some, Act.put, List.setIfInBounds_toArray, List.set_cons_succ, List.set_cons_zero]
    go_wp2_with fail
    refine (order_at (r + r) D _ _ w' hv1' (HND.out.ext hb)).mono ?_
    rintro e wz ⟨rfl, kq, hwq⟩
    go_wp2
    exact ⟨rfl, (by first | exact below_drewN (Below.refl _ _) kq | (rw [hwq]; exact below_drewN (Below.refl _ _) kq)), rfl⟩
  intro w5' hbz u0 hu0 u1 hu1 u2 hu2 u3 hu3 u4 hu4 u5 hu5
  obtain rfl : u5 = _ := hu5
  clear hu0 hu1 hu2 hu3 hu4
  replace HB_r := Lib.hid (HB_r.out.ext hbz)
  replace HF_o := Lib.hid (HF_o.out.ext HB_o.out hbz)
  replace HB_o := Lib.hid (HB_o.out.ext hbz)
  replace HB_x := Lib.hid (HB_x.out.ext hbz)
  replace HND := Lib.hid (HND.out.ext hbz)
  replace HNQ := Lib.hid (HNQ.out.ext hbz)
  replace HNR := Lib.hid (HNR.out.ext hbz)
  replace HW := Lib.hid (ext_trans HW.out hbz)
  clear c_x_0 c_x_1 c_x_2
  clear hbz
  show wpList _ _ _ _ _ _
  simp only [Act.put, List.setIfInBounds_toArray, List.set_cons_succ, List.set_cons_zero]
  by_cases hge : D ≤ r + r
  · have hc9 : decide (cmpN (r + r) D ≥ 0) = true := decide_eq_true (cmpN_ge.2 hge)
    have HV9 : Hid (dcQ A D p = q + 1) := Lib.hid (by rw [HQ.out, if_pos hge])
    clear hge hdq HQ
    clear HNR
    go_wp2_with fail
    refine (small_at 1 (by decide) w5').mono ?_
    rintro e w6' ⟨v7, rfl, hv7, hbz⟩
    have HN7 := Lib.hid hv7
    obtain ⟨a7, c7, rfl, _⟩ := hv7.open_
    generalize (digs 1).length = m7 at *
    clear hv7 hc9
    replace HB_r := Lib.hid (HB_r.out.ext hbz)
    replace HF_o := Lib.hid (HF_o.out.ext HB_o.out hbz)
    replace HB_o := Lib.hid (HB_o.out.ext hbz)
    replace HB_x := Lib.hid (HB_x.out.ext hbz)
    replace HND := Lib.hid (HND.out.ext hbz)
    replace HNQ := Lib.hid (HNQ.out.ext hbz)
    replace HW := Lib.hid (ext_trans HW.out hbz)
    clear hbz
    go_wp2_with fail
    refine (plus_at q 1 _ _ w6' HNQ.out HN7.out (by omega) (by have := wlen_one9; omega)).mono ?_
    rintro e w7' ⟨v6, rfl, hv6, hbz⟩
    have HN6 := Lib.hid hv6
    obtain ⟨a6, c6, rfl, _⟩ := hv6.open_
    have hdn := digs_zero_iff (Q := q + 1)
    generalize (digs (q + 1)).length = m6 at *
    clear hv6
    replace HB_r := Lib.hid (HB_r.out.ext hbz)
    replace HF_o := Lib.hid (HF_o.out.ext HB_o.out hbz)
    replace HB_o := Lib.hid (HB_o.out.ext hbz)
    replace HB_x := Lib.hid (HB_x.out.ext hbz)
    replace HND := Lib.hid (HND.out.ext hbz)
    replace HNQ := Lib.hid (HNQ.out.ext hbz)
    replace HN7 := Lib.hid (HN7.out.ext hbz)
    replace HW := Lib.hid (ext_trans HW.out hbz)
    clear hbz
    go_upto_region 5 with (fail)
    have HVQ : Hid (N w7' (.slice a6 m6 c6) (q + 1)) := HN6
    cases bb with
    | false =>
      have HBV : Hid ((false && decide (0 < dcQ A D p)) = false) := Lib.hid rfl
      have c_x_0 : w7'.cell? ⟨b_x, 0, none⟩ = some (.bool false) := HB_x.out.2 0
      have c_x_1 : w7'.cell? ⟨b_x, 1, none⟩ = some (.slice a1 m1 c1) := HB_x.out.2 1
      have c_x_2 : w7'.cell? ⟨b_x, 2, none⟩ = some (.slice a2 m2 c2) := HB_x.out.2 2
      go_wp2_with fail
      refine (small_at 1 (by decide) w7').mono ?_
      rintro e w8' ⟨v8, rfl, hv8, hbz⟩
      have HN8 := Lib.hid hv8
      obtain ⟨a8, c8, rfl, _⟩ := hv8.open_
      generalize (digs 1).length = m8 at *
      clear hv8
      replace HB_r := Lib.hid (HB_r.out.ext hbz)
      replace HF_o := Lib.hid (HF_o.out.ext HB_o.out hbz)
      replace HB_o := Lib.hid (HB_o.out.ext hbz)
      replace HB_x := Lib.hid (HB_x.out.ext hbz)
      replace HVQ := Lib.hid (HVQ.out.ext hbz)
      replace HW := Lib.hid (ext_trans HW.out hbz)
      clear c_x_0 c_x_1 c_x_2
      clear hbz
      have c_o_0 : w8'.cell? ⟨w.heap.size + 1, 0, none⟩ = some (.bool false) := HB_o.out.2 0
      have c_o_1 : w8'.cell? ⟨w.heap.size + 1, 1, none⟩ = some (.slice none 0 0) := HB_o.out.2 1
      have c_o_2 : w8'.cell? ⟨w.heap.size + 1, 2, none⟩ = some (.slice none 0 0) := HB_o.out.2 2
      have f_o_0 := HF_o.out 0
      have f_o_1 := HF_o.out 1
      have f_o_2 := HF_o.out 2
      have HR := Lib.hid (fr3 false HB_o.out HVQ.out HN8.out HW.out (show w.heap.size ≤ w.heap.size + 1 by omega))
      obtain ⟨_, _, _, z0, z1, z2⟩ := id HR.out
      go_wp2
      exact bodyPost_ret (v := .agg #[.bool false, .slice a6 m6 c6, .slice a8 m8 c8]) (by simp [results, Tryz.results99, go_sem, z0, z1, z2]) rfl ⟨_, _, by rw [HBV.out], by rw [HV9.out]; exact HR.out.1, HR.out.2.1, HR.out.2.2.1⟩
    | true =>
      by_cases hq0 : (q + 1) = 0
      · have hm0 : m6 = 0 := hdn.2 hq0
        have HBV : Hid ((true && decide (0 < dcQ A D p)) = false) := Lib.hid (by rw [HV9.out, decide_eq_false (by omega)]; rfl)
        clear hq0 hdn
        subst hm0
        have c_x_0 : w7'.cell? ⟨b_x, 0, none⟩ = some (.bool true) := HB_x.out.2 0
        have c_x_1 : w7'.cell? ⟨b_x, 1, none⟩ = some (.slice a1 m1 c1) := HB_x.out.2 1
        have c_x_2 : w7'.cell? ⟨b_x, 2, none⟩ = some (.slice a2 m2 c2) := HB_x.out.2 2
        go_wp2_with fail
        refine (small_at 1 (by decide) w7').mono ?_
        rintro e w8' ⟨v8, rfl, hv8, hbz⟩
        have HN8 := Lib.hid hv8
        obtain ⟨a8, c8, rfl, _⟩ := hv8.open_
        generalize (digs 1).length = m8 at *
        clear hv8
        replace HB_r := Lib.hid (HB_r.out.ext hbz)
        replace HF_o := Lib.hid (HF_o.out.ext HB_o.out hbz)
        replace HB_o := Lib.hid (HB_o.out.ext hbz)
        replace HB_x := Lib.hid (HB_x.out.ext hbz)
        replace HVQ := Lib.hid (HVQ.out.ext hbz)
        replace HW := Lib.hid (ext_trans HW.out hbz)
        clear c_x_0 c_x_1 c_x_2
        clear hbz
        have c_o_0 : w8'.cell? ⟨w.heap.size + 1, 0, none⟩ = some (.bool false) := HB_o.out.2 0
        have c_o_1 : w8'.cell? ⟨w.heap.size + 1, 1, none⟩ = some (.slice none 0 0) := HB_o.out.2 1
        have c_o_2 : w8'.cell? ⟨w.heap.size + 1, 2, none⟩ = some (.slice none 0 0) := HB_o.out.2 2
        have f_o_0 := HF_o.out 0
        have f_o_1 := HF_o.out 1
        have f_o_2 := HF_o.out 2
        have HR := Lib.hid (fr3 false HB_o.out HVQ.out HN8.out HW.out (show w.heap.size ≤ w.heap.size + 1 by omega))
        obtain ⟨_, _, _, z0, z1, z2⟩ := id HR.out
        go_wp2
        exact bodyPost_ret (v := .agg #[.bool false, .slice a6 0 c6, .slice a8 m8 c8]) (by simp [results, Tryz.results99, go_sem, z0, z1, z2]) rfl ⟨_, _, by rw [HBV.out], by rw [HV9.out]; exact HR.out.1, HR.out.2.1, HR.out.2.2.1⟩
      · have hm1 : 0 < m6 := Nat.pos_of_ne_zero (fun e => hq0 (hdn.1 e))
        have HBV : Hid ((true && decide (0 < dcQ A D p)) = true) := Lib.hid (by rw [HV9.out, decide_eq_true (by omega)]; rfl)
        clear hq0 hdn
        have c_x_0 : w7'.cell? ⟨b_x, 0, none⟩ = some (.bool true) := HB_x.out.2 0
        have c_x_1 : w7'.cell? ⟨b_x, 1, none⟩ = some (.slice a1 m1 c1) := HB_x.out.2 1
        have c_x_2 : w7'.cell? ⟨b_x, 2, none⟩ = some (.slice a2 m2 c2) := HB_x.out.2 2
        go_wp2_with fail
        refine (small_at 1 (by decide) w7').mono ?_
        rintro e w8' ⟨v8, rfl, hv8, hbz⟩
        have HN8 := Lib.hid hv8
        obtain ⟨a8, c8, rfl, _⟩ := hv8.open_
        generalize (digs 1).length = m8 at *
        clear hv8
        replace HB_r := Lib.hid (HB_r.out.ext hbz)
        replace HF_o := Lib.hid (HF_o.out.ext HB_o.out hbz)
        replace HB_o := Lib.hid (HB_o.out.ext hbz)
        replace HB_x := Lib.hid (HB_x.out.ext hbz)
        replace HVQ := Lib.hid (HVQ.out.ext hbz)
        replace HW := Lib.hid (ext_trans HW.out hbz)
        clear c_x_0 c_x_1 c_x_2
        clear hbz
        have c_o_0 : w8'.cell? ⟨w.heap.size + 1, 0, none⟩ = some (.bool false) := HB_o.out.2 0
        have c_o_1 : w8'.cell? ⟨w.heap.size + 1, 1, none⟩ = some (.slice none 0 0) := HB_o.out.2 1
        have c_o_2 : w8'.cell? ⟨w.heap.size + 1, 2, none⟩ = some (.slice none 0 0) := HB_o.out.2 2
        have f_o_0 := HF_o.out 0
        have f_o_1 := HF_o.out 1
        have f_o_2 := HF_o.out 2
        have HR := Lib.hid (fr3 true HB_o.out HVQ.out HN8.out HW.out (show w.heap.size ≤ w.heap.size + 1 by omega))
        obtain ⟨_, _, _, z0, z1, z2⟩ := id HR.out
        go_wp2
        exact bodyPost_ret (v := .agg #[.bool true, .slice a6 m6 c6, .slice a8 m8 c8]) (by simp [results, Tryz.results99, go_sem, z0, z1, z2]) rfl ⟨_, _, by rw [HBV.out], by rw [HV9.out]; exact HR.out.1, HR.out.2.1, HR.out.2.2.1⟩
  · have hc9 : decide (cmpN (r + r) D ≥ 0) = false := decide_eq_false (fun h => hge (cmpN_ge.1 h))
    have HV9 : Hid (dcQ A D p = q) := Lib.hid (by rw [HQ.out, if_neg hge, Nat.add_zero])
    have hdn := hdq
    clear hge hdq HQ
    go_upto_region 5 with (fail)
    clear hc9
    have HVQ : Hid (N w5' (.slice aq mq cq) q) := HNQ
    cases bb with
    | false =>
      have HBV : Hid ((false && decide (0 < dcQ A D p)) = false) := Lib.hid rfl
      have c_x_0 : w5'.cell? ⟨b_x, 0, none⟩ = some (.bool false) := HB_x.out.2 0
      have c_x_1 : w5'.cell? ⟨b_x, 1, none⟩ = some (.slice a1 m1 c1) := HB_x.out.2 1
      have c_x_2 : w5'.cell? ⟨b_x, 2, none⟩ = some (.slice a2 m2 c2) := HB_x.out.2 2
      go_wp2_with fail
      refine (small_at 1 (by decide) w5').mono ?_
      rintro e w6' ⟨v8, rfl, hv8, hbz⟩
      have HN8 := Lib.hid hv8
      obtain ⟨a8, c8, rfl, _⟩ := hv8.open_
      generalize (digs 1).length = m8 at *
      clear hv8
      replace HB_r := Lib.hid (HB_r.out.ext hbz)
      replace HF_o := Lib.hid (HF_o.out.ext HB_o.out hbz)
      replace HB_o := Lib.hid (HB_o.out.ext hbz)
      replace HB_x := Lib.hid (HB_x.out.ext hbz)
      replace HVQ := Lib.hid (HVQ.out.ext hbz)
      replace HW := Lib.hid (ext_trans HW.out hbz)
      clear c_x_0 c_x_1 c_x_2
      clear hbz
      have c_o_0 : w6'.cell? ⟨w.heap.size + 1, 0, none⟩ = some (.bool false) := HB_o.out.2 0
      have c_o_1 : w6'.cell? ⟨w.heap.size + 1, 1, none⟩ = some (.slice none 0 0) := HB_o.out.2 1
      have c_o_2 : w6'.cell? ⟨w.heap.size + 1, 2, none⟩ = some (.slice none 0 0) := HB_o.out.2 2
      have f_o_0 := HF_o.out 0
      have f_o_1 := HF_o.out 1
      have f_o_2 := HF_o.out 2
      have HR := Lib.hid (fr3 false HB_o.out HVQ.out HN8.out HW.out (show w.heap.size ≤ w.heap.size + 1 by omega))
      obtain ⟨_, _, _, z0, z1, z2⟩ := id HR.out
      go_wp2
      exact bodyPost_ret (v := .agg #[.bool false, .slice aq mq cq, .slice a8 m8 c8]) (by simp [results, Tryz.results99, go_sem, z0, z1, z2]) rfl ⟨_, _, by rw [HBV.out], by rw [HV9.out]; exact HR.out.1, HR.out.2.1, HR.out.2.2.1⟩
    | true =>
      by_cases hq0 : q = 0
      · have hm0 : mq = 0 := hdn.2 hq0
        have HBV : Hid ((true && decide (0 < dcQ A D p)) = false) := Lib.hid (by rw [HV9.out, decide_eq_false (by omega)]; rfl)
        clear hq0 hdn
        subst hm0
        have c_x_0 : w5'.cell? ⟨b_x, 0, none⟩ = some (.bool true) := HB_x.out.2 0
        have c_x_1 : w5'.cell? ⟨b_x, 1, none⟩ = some (.slice a1 m1 c1) := HB_x.out.2 1
        have c_x_2 : w5'.cell? ⟨b_x, 2, none⟩ = some (.slice a2 m2 c2) := HB_x.out.2 2
        go_wp2_with fail
        refine (small_at 1 (by decide) w5').mono ?_
        rintro e w6' ⟨v8, rfl, hv8, hbz⟩
        have HN8 := Lib.hid hv8
        obtain ⟨a8, c8, rfl, _⟩ := hv8.open_
        generalize (digs 1).length = m8 at *
        clear hv8
        replace HB_r := Lib.hid (HB_r.out.ext hbz)
        replace HF_o := Lib.hid (HF_o.out.ext HB_o.out hbz)
        replace HB_o := Lib.hid (HB_o.out.ext hbz)
        replace HB_x := Lib.hid (HB_x.out.ext hbz)
        replace HVQ := Lib.hid (HVQ.out.ext hbz)
        replace HW := Lib.hid (ext_trans HW.out hbz)
        clear c_x_0 c_x_1 c_x_2
        clear hbz
        have c_o_0 : w6'.cell? ⟨w.heap.size + 1, 0, none⟩ = some (.bool false) := HB_o.out.2 0
        have c_o_1 : w6'.cell? ⟨w.heap.size + 1, 1, none⟩ = some (.slice none 0 0) := HB_o.out.2 1
        have c_o_2 : w6'.cell? ⟨w.heap.size + 1, 2, none⟩ = some (.slice none 0 0) := HB_o.out.2 2
        have f_o_0 := HF_o.out 0
        have f_o_1 := HF_o.out 1
        have f_o_2 := HF_o.out 2
        have HR := Lib.hid (fr3 false HB_o.out HVQ.out HN8.out HW.out (show w.heap.size ≤ w.heap.size + 1 by omega))
        obtain ⟨_, _, _, z0, z1, z2⟩ := id HR.out
        go_wp2
        exact bodyPost_ret (v := .agg #[.bool false, .slice aq 0 cq, .slice a8 m8 c8]) (by simp [results, Tryz.results99, go_sem, z0, z1, z2]) rfl ⟨_, _, by rw [HBV.out], by rw [HV9.out]; exact HR.out.1, HR.out.2.1, HR.out.2.2.1⟩
      · have hm1 : 0 < mq := Nat.pos_of_ne_zero (fun e => hq0 (hdn.1 e))
        have HBV : Hid ((true && decide (0 < dcQ A D p)) = true) := Lib.hid (by rw [HV9.out, decide_eq_true (by omega)]; rfl)
        clear hq0 hdn
        have c_x_0 : w5'.cell? ⟨b_x, 0, none⟩ = some (.bool true) := HB_x.out.2 0
        have c_x_1 : w5'.cell? ⟨b_x, 1, none⟩ = some (.slice a1 m1 c1) := HB_x.out.2 1
        have c_x_2 : w5'.cell? ⟨b_x, 2, none⟩ = some (.slice a2 m2 c2) := HB_x.out.2 2
        go_wp2_with fail
        refine (small_at 1 (by decide) w5').mono ?_
        rintro e w6' ⟨v8, rfl, hv8, hbz⟩
        have HN8 := Lib.hid hv8
        obtain ⟨a8, c8, rfl, _⟩ := hv8.open_
        generalize (digs 1).length = m8 at *
        clear hv8
        replace HB_r := Lib.hid (HB_r.out.ext hbz)
        replace HF_o := Lib.hid (HF_o.out.ext HB_o.out hbz)
        replace HB_o := Lib.hid (HB_o.out.ext hbz)
        replace HB_x := Lib.hid (HB_x.out.ext hbz)
        replace HVQ := Lib.hid (HVQ.out.ext hbz)
        replace HW := Lib.hid (ext_trans HW.out hbz)
        clear c_x_0 c_x_1 c_x_2
        clear hbz
        have c_o_0 : w6'.cell? ⟨w.heap.size + 1, 0, none⟩ = some (.bool false) := HB_o.out.2 0
        have c_o_1 : w6'.cell? ⟨w.heap.size + 1, 1, none⟩ = some (.slice none 0 0) := HB_o.out.2 1
        have c_o_2 : w6'.cell? ⟨w.heap.size + 1, 2, none⟩ = some (.slice none 0 0) := HB_o.out.2 2
        have f_o_0 := HF_o.out 0
        have f_o_1 := HF_o.out 1
        have f_o_2 := HF_o.out 2
        have HR := Lib.hid (fr3 true HB_o.out HVQ.out HN8.out HW.out (show w.heap.size ≤ w.heap.size + 1 by omega))
        obtain ⟨_, _, _, z0, z1, z2⟩ := id HR.out
        go_wp2
        exact bodyPost_ret (v := .agg #[.bool true, .slice aq mq cq, .slice a8 m8 c8]) (by simp [results, Tryz.results99, go_sem, z0, z1, z2]) rfl ⟨_, _, by rw [HBV.out], by rw [HV9.out]; exact HR.out.1, HR.out.2.1, HR.out.2.2.1⟩
set_option maxRecDepth 100000 in
set_option maxHeartbeats 8000000 in
theorem places_at (n d : ByteArray) (hn : n.size ≤ maxLen) (hd : d.size ≤ maxLen) (p : Int) (w : World) (ht : Tab w) : Calls Tryz.prog 98 #[.agg #[.string n, .string d], .int .i64 p] w (CPost w (dcmF n d p)) := by
  go_enter Tryz.func98, Tryz.ntmps98
  have HT0 := Lib.hid ht
  clear ht
  go_upto_region 1 with (fail)
  refine wp_box1 fun w1' hsz hbW hA0 => ?_
  clear hsz
  have HB_r := Lib.hid hA0
  have HW := Lib.hid hbW
  clear hbW hA0
  have c_r_0 : w1'.cell? ⟨w.heap.size, 0, none⟩ = some (.string n) := HB_r.out.2 0
  have c_r_1 : w1'.cell? ⟨w.heap.size, 1, none⟩ = some (.string d) := HB_r.out.2 1
  go_wp2_with fail
  refine (refCheck_at n d hn hd w1' (HT0.out.ext HW.out)).mono ?_
  rintro e w2' ⟨rfl, hbz⟩
  replace HB_r := Lib.hid (HB_r.out.ext hbz)
  replace HW := Lib.hid (ext_trans HW.out hbz)
  clear c_r_0 c_r_1
  clear hbz
  by_cases hz : rF n d = 0
  · have hne : (rF n d != 0) = false := by simp [hz]
    by_cases hp : 0 ≤ p ∧ p ≤ 30
    · have HF : Hid (dcmF n d p = 0) := Lib.hid (by unfold dcmF; rw [if_neg (fun h => h hz), if_pos hp])
      obtain ⟨g1, g2⟩ := hp
      clear hz
      go_wp2
      exact bodyPost_ret (v := .int .i64 (0)) (by simp [results, Tryz.results98, go_sem]) rfl ⟨by rw [HF.out], HW.out⟩
    · have HF : Hid (dcmF n d p = 1) := Lib.hid (by unfold dcmF; rw [if_neg (fun h => h hz), if_neg hp])
      clear hz
      by_cases g1 : p < 0
      · clear hp
        go_wp2
        exact bodyPost_ret (v := .int .i64 (1)) (by simp [results, Tryz.results98, go_sem]) rfl ⟨by rw [HF.out], HW.out⟩
      · have g2 : 30 < p := by omega
        clear hp
        go_wp2
        exact bodyPost_ret (v := .int .i64 (1)) (by simp [results, Tryz.results98, go_sem]) rfl ⟨by rw [HF.out], HW.out⟩
  · have HF : Hid (dcmF n d p = rF n d) := Lib.hid (by unfold dcmF; rw [if_pos hz])
    have hne : (rF n d != 0) = true := by simp [hz]
    clear hz
    go_wp2
    exact bodyPost_ret (v := .int .i64 (rF n d)) (by simp [results, Tryz.results98, go_sem]) rfl ⟨by rw [HF.out], HW.out⟩
theorem dcm_ok {n d : ByteArray} {p : Int} (h : dcmF n d p = 0) : rF n d = 0 ∧ 0 ≤ p ∧ p ≤ 30 := by
  unfold dcmF at h
  by_cases hz : rF n d = 0
  · rw [if_neg (fun h' => h' hz)] at h
    by_cases hp : 0 ≤ p ∧ p ≤ 30
    · exact ⟨hz, hp⟩
    · rw [if_neg hp] at h; cases h
  · rw [if_pos hz] at h; exact absurd h hz
theorem dcm_wlen {n d : ByteArray} (hz : rF n d = 0) {p : Nat} (hp : p ≤ 30) : wlen (dcmQ n d (p : Int)) ≤ 5000 := by
  obtain ⟨h1, h2⟩ := small_digs9 hz
  have hden : 0 < (rQ n d).den := (rQ n d).den_pos
  obtain ⟨h3, h4⟩ := wlen_ten h1 (show p ≤ 31 by omega)
  have e : dcmQ n d (p : Int) = dcQ (rQ n d).num.natAbs (rQ n d).den p := rfl
  rw [e, dcQ_ref hden]
  have h5 : (rQ n d).num.natAbs * 10 ^ p / (rQ n d).den + (if (rQ n d).den ≤ (rQ n d).num.natAbs * 10 ^ p % (rQ n d).den + (rQ n d).num.natAbs * 10 ^ p % (rQ n d).den then 1 else 0) ≤ (rQ n d).num.natAbs * 10 ^ p + 1 := by
    have := Nat.div_le_self ((rQ n d).num.natAbs * 10 ^ p) (rQ n d).den
    split <;> omega
  refine Nat.le_trans (wlen_mono h5) ?_
  have h6 := wlen_add ((rQ n d).num.natAbs * 10 ^ p) 1
  have h7 := wlen_one9
  omega
set_option maxRecDepth 100000 in
set_option maxHeartbeats 16000000 in
theorem refDecimal_at (n d : ByteArray) (hn : n.size ≤ maxLen) (hd : d.size ≤ maxLen) (p : Int) (w : World) (ht : Tab w) : Calls Tryz.prog 26 #[.agg #[.string n, .string d], .int .i64 p] w (DcmPost w n d p) := by
  go_enter Tryz.func26, Tryz.ntmps26
  have HT0 := Lib.hid ht
  clear ht
  go_upto_region 1 with (fail)
  refine wp_box1 fun w1' hsz hbW hA0 => ?_
  clear hsz
  have HB_r := Lib.hid hA0
  have HW := Lib.hid hbW
  clear hbW hA0
  have c_r_0 : w1'.cell? ⟨w.heap.size, 0, none⟩ = some (.string n) := HB_r.out.2 0
  have c_r_1 : w1'.cell? ⟨w.heap.size, 1, none⟩ = some (.string d) := HB_r.out.2 1
  go_wp2_with fail
  refine (places_at n d hn hd p w1' (HT0.out.ext HW.out)).mono ?_
  rintro e w2' ⟨rfl, hbz⟩
  replace HB_r := Lib.hid (HB_r.out.ext hbz)
  replace HW := Lib.hid (ext_trans HW.out hbz)
  clear c_r_0 c_r_1
  clear hbz
  by_cases hf : dcmF n d p = 0
  · have hne : (dcmF n d p != 0) = false := by simp [hf]
    obtain ⟨hz, hp0, hp30⟩ := dcm_ok hf
    obtain ⟨pn, rfl⟩ : ∃ x : Nat, p = (x : Int) := ⟨p.toNat, by omega⟩
    have hpn : pn ≤ 30 := by omega
    have HO : Hid (dcmS n d (pn : Int) = strOf (dcT (decide ((rQ n d).num < 0) && decide (0 < dcmQ n d (pn : Int))) pn (decS (dcmQ n d (pn : Int)))) ∧ dcmF n d (pn : Int) = 0) := Lib.hid ⟨by unfold dcmS; rw [if_pos hf]; rfl, hf⟩
    have wQ : wlen (dcmQ n d (pn : Int)) ≤ 5000 := dcm_wlen hz hpn
    have HNE : Hid (∀ w', Calls Tryz.prog 99 #[.agg #[.string n, .string d], .int .i64 (pn : Int)] w' (FrPost w' (decide ((rQ n d).num < 0) && decide (0 < dcmQ n d (pn : Int))) (dcmQ n d (pn : Int)) 1)) := Lib.hid (nearest_at n d hn hz pn hpn)
    generalize dcmQ n d (pn : Int) = Q at *
    generalize (decide ((rQ n d).num < 0) && decide (0 < Q)) = bb at *
    clear hf hz hp0 hp30
    have c_r_0 : w2'.cell? ⟨w.heap.size, 0, none⟩ = some (.string n) := HB_r.out.2 0
    have c_r_1 : w2'.cell? ⟨w.heap.size, 1, none⟩ = some (.string d) := HB_r.out.2 1
    go_wp2_with fail
    refine (HNE.out w2').mono ?_
    rintro e w3' ⟨v1, v2, rfl, hN1, hN2, hbz⟩
    obtain ⟨a1, c1, rfl, _⟩ := hN1.open_
    obtain ⟨a2, c2, rfl, _⟩ := hN2.open_
    generalize (digs Q).length = m1 at *
    generalize (digs 1).length = m2 at *
    have HNQ := Lib.hid hN1
    clear hN1 hN2
    replace HB_r := Lib.hid (HB_r.out.ext hbz)
    replace HW := Lib.hid (ext_trans HW.out hbz)
    clear c_r_0 c_r_1
    clear hbz
    go_upto_region 5 with (fail)
    refine wp_box1 fun w4' hsz hbz hC => ?_
    clear hsz
    have lt_r_x : w.heap.size < w3'.heap.size := HB_r.out.1
    have le_x : w.heap.size ≤ w3'.heap.size := HW.out.size
    replace HB_r := Lib.hid (HB_r.out.ext hbz)
    replace HNQ := Lib.hid (HNQ.out.ext hbz)
    replace HW := Lib.hid (ext_trans HW.out hbz)
    clear hbz
    have HB_x := Lib.hid hC
    clear hC
    generalize w3'.heap.size = b_x at *
    have c_x_0 : w4'.cell? ⟨b_x, 0, none⟩ = some (.bool bb) := HB_x.out.2 0
    have c_x_1 : w4'.cell? ⟨b_x, 1, none⟩ = some (.slice a1 m1 c1) := HB_x.out.2 1
    have c_x_2 : w4'.cell? ⟨b_x, 2, none⟩ = some (.slice a2 m2 c2) := HB_x.out.2 2
    go_wp2_with fail
    refine (text_at Q _ w4' HNQ.out (by omega) (HT0.out.ext HW.out)).mono ?_
    rintro e w5' ⟨rfl, hbz⟩
    obtain ⟨S0, hS0⟩ : ∃ S, strOf (decS Q) = S := ⟨_, rfl⟩
    have hsz : S0.size = (decS Q).length := by rw [← hS0, strOf_size]
    have hs1 : 1 ≤ S0.size := by rw [hsz]; exact List.length_pos_iff.2 (decS_ne Q)
    have hs2 : S0.size ≤ 50000 := by
      have := dec_of_wlen9 wQ (by omega)
      omega
    rw [hS0]
    have HS0 := Lib.hid hS0
    have HSZ := Lib.hid hsz
    clear hS0 hsz
    replace HB_r := Lib.hid (HB_r.out.ext hbz)
    replace HB_x := Lib.hid (HB_x.out.ext hbz)
    replace HNQ := Lib.hid (HNQ.out.ext hbz)
    replace HW := Lib.hid (ext_trans HW.out hbz)
    clear c_x_0 c_x_1 c_x_2
    clear hbz
    by_cases hp : pn = 0
    · have HSV : Hid (S0 = strOf (dcB pn (decS Q))) := Lib.hid (by rw [← HS0.out]; unfold dcB; rw [if_pos hp])
      have hp9 : ¬ (0 < pn) := by omega
      clear hp
      go_upto_region 9 with (fail)
      cases bb with
      | false =>
        have c_x_0 : w5'.cell? ⟨b_x, 0, none⟩ = some (.bool false) := HB_x.out.2 0
        have c_x_1 : w5'.cell? ⟨b_x, 1, none⟩ = some (.slice a1 m1 c1) := HB_x.out.2 1
        have c_x_2 : w5'.cell? ⟨b_x, 2, none⟩ = some (.slice a2 m2 c2) := HB_x.out.2 2
        go_wp2
        exact bodyPost_ret (v := .tuple #[.string (S0), .int .i64 0]) (by simp [results, Tryz.results26, go_sem]) rfl ⟨by rw [HO.out.1, HO.out.2]; rw [HSV.out]; rfl, HW.out⟩
      | true =>
        have c_x_0 : w5'.cell? ⟨b_x, 0, none⟩ = some (.bool true) := HB_x.out.2 0
        have c_x_1 : w5'.cell? ⟨b_x, 1, none⟩ = some (.slice a1 m1 c1) := HB_x.out.2 1
        have c_x_2 : w5'.cell? ⟨b_x, 2, none⟩ = some (.slice a2 m2 c2) := HB_x.out.2 2
        go_wp2
        exact bodyPost_ret (v := .tuple #[.string (⟨#[45]⟩ ++ S0), .int .i64 0]) (by simp [results, Tryz.results26, go_sem]) rfl ⟨by rw [HO.out.1, HO.out.2]; rw [HSV.out, cat45']; rfl, HW.out⟩
    · have hp9 : 0 < pn := by omega
      obtain ⟨z, hz⟩ : ∃ z, pn + 1 - S0.size = z := ⟨_, rfl⟩
      have hz9 : z ≤ 1000 := by omega
      have hzI : max ((pn : Int) + 1 - (S0.size : Int)) 0 = (z : Int) := by omega
      obtain ⟨Z, hZ⟩ : ∃ Z, Z = strOf (List.replicate z 48) := ⟨_, rfl⟩
      have HZ := Lib.hid hZ
      have hZs : Z.size = z := by rw [hZ, strOf_size, List.length_replicate]
      have hbd : -9223372036854775808 ≤ (pn : Int) + 1 - (S0.size : Int) ∧ (pn : Int) + 1 - (S0.size : Int) ≤ 9223372036854775807 := by omega
      have HZ9 := Lib.hid hz
      have hszs : pn + 1 ≤ Z.size + S0.size := by omega
      have hszu : Z.size + S0.size ≤ 60000 := by omega
      have e1 : IntKind.i64.wrap ((pn : Int) + 1) = (pn : Int) + 1 := IntWalk.i64_in _ (by omega)
      have e2 : IntKind.i64.wrap ((pn : Int) + 1 - (S0.size : Int)) = (pn : Int) + 1 - (S0.size : Int) := IntWalk.i64_in _ hbd
      have HZI := Lib.hid hzI
      clear hz hzI hbd hZ
      go_wp2_with fail
      refine (rep_at z hz9 Z HZ.out _ HZI.out w5').mono ?_
      rintro e w6' ⟨rfl, hbz⟩
      replace HB_r := Lib.hid (HB_r.out.ext hbz)
      replace HB_x := Lib.hid (HB_x.out.ext hbz)
      replace HNQ := Lib.hid (HNQ.out.ext hbz)
      replace HW := Lib.hid (ext_trans HW.out hbz)
      clear hbz
      clear e1 e2
      go_upto_region 8 with (fail)
      obtain ⟨S1, hS1⟩ : ∃ S, Z ++ S0 = S := ⟨_, rfl⟩
      have HS1 : Hid (S1 = strOf (dcPad pn (decS Q))) := Lib.hid (by rw [← hS1, HZ.out, ← HS0.out, ← strOf_nm, ← strOf_nm, Nm.cat_is, ← HZ9.out, HSZ.out]; rfl)
      have hs3 : pn + 1 ≤ S1.size := by rw [← hS1, ByteArray.size_append]; exact hszs
      have hs4 : S1.size ≤ 60000 := by rw [← hS1, ByteArray.size_append]; exact hszu
      rw [hS1]
      clear hS1 HZ HZ9 hszs hszu hZs
      obtain ⟨k, hk⟩ : ∃ k, S1.size - pn = k := ⟨_, rfl⟩
      have hkp : k + pn = S1.size := by omega
      have hkI : (S1.size : Int) - (pn : Int) = (k : Int) := by omega
      have HSV : Hid (S1.extract 0 k ++ ⟨#[46]⟩ ++ S1.extract k S1.size = strOf (dcB pn (decS Q))) := Lib.hid (by rw [← hk, HS1.out, ← strOf_nm, Nm.dot_is, Nm.strOf_size]; unfold dcB; rw [if_neg hp]; rfl)
      have hbd : -9223372036854775808 ≤ (S1.size : Int) - (pn : Int) ∧ (S1.size : Int) - (pn : Int) ≤ 9223372036854775807 := by omega
      have e3 : IntKind.i64.wrap ((S1.size : Int) - (pn : Int)) = (k : Int) := (IntWalk.i64_in _ hbd).trans hkI
      have hk0 : (0 : Int) ≤ (k : Int) := Int.natCast_nonneg _
      have hk1 : (k : Int) ≤ (S1.size : Int) := by omega
      clear hk hkI hkp hbd hp
      go_quiet (fail)
      have hbz : Below w6'.heap.size w6' (w6'.drewN nq) := below_drewN (Below.refl _ _) nq
      generalize w6'.drewN nq = w7' at *
      clear e3
      replace HB_r := Lib.hid (HB_r.out.ext hbz)
      replace HB_x := Lib.hid (HB_x.out.ext hbz)
      replace HNQ := Lib.hid (HNQ.out.ext hbz)
      replace HW := Lib.hid (ext_trans HW.out hbz)
      clear hbz
      have hts : (strOf (dcB pn (decS Q))).size ≤ 200000 := by
        have h46 : (⟨#[46]⟩ : ByteArray).size = 1 := rfl
        rw [← HSV.out, ByteArray.size_append, ByteArray.size_append, ByteArray.size_extract, ByteArray.size_extract, h46]
        omega
      rw [HSV.out]
      generalize hT9 : strOf (dcB pn (decS Q)) = T9 at *
      replace HSV : Hid (T9 = strOf (dcB pn (decS Q))) := Lib.hid hT9.symm
      clear hT9
      cases bb with
      | false =>
        have c_x_0 : w7'.cell? ⟨b_x, 0, none⟩ = some (.bool false) := HB_x.out.2 0
        have c_x_1 : w7'.cell? ⟨b_x, 1, none⟩ = some (.slice a1 m1 c1) := HB_x.out.2 1
        have c_x_2 : w7'.cell? ⟨b_x, 2, none⟩ = some (.slice a2 m2 c2) := HB_x.out.2 2
        go_wp2
        exact bodyPost_ret (v := .tuple #[.string (T9), .int .i64 0]) (by simp [results, Tryz.results26, go_sem]) rfl ⟨by rw [HO.out.1, HO.out.2]; rw [HSV.out]; rfl, HW.out⟩
      | true =>
        have c_x_0 : w7'.cell? ⟨b_x, 0, none⟩ = some (.bool true) := HB_x.out.2 0
        have c_x_1 : w7'.cell? ⟨b_x, 1, none⟩ = some (.slice a1 m1 c1) := HB_x.out.2 1
        have c_x_2 : w7'.cell? ⟨b_x, 2, none⟩ = some (.slice a2 m2 c2) := HB_x.out.2 2
        go_wp2
        exact bodyPost_ret (v := .tuple #[.string (⟨#[45]⟩ ++ T9), .int .i64 0]) (by simp [results, Tryz.results26, go_sem]) rfl ⟨by rw [HO.out.1, HO.out.2]; rw [HSV.out, cat45']; rfl, HW.out⟩
  · have HO : Hid (dcmS n d p = ⟨#[]⟩) := Lib.hid (by unfold dcmS; rw [if_neg hf])
    have hne : (dcmF n d p != 0) = true := by simp [hf]
    clear hf
    go_wp2
    exact bodyPost_ret (v := .tuple #[.string ⟨#[]⟩, .int .i64 (dcmF n d p)]) (by simp [results, Tryz.results26, go_sem]) rfl ⟨by rw [HO.out], HW.out⟩
end Nt
end Go.Proofs.YtmnmepbljegjeaaGreatDoor
