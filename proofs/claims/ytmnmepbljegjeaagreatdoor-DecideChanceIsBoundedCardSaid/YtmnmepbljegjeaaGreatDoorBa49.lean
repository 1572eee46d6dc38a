/- The walk of the law of bounded chances: for every test, every number of pairs and all thousandths it returns true, where the table of strconv lies. Printed by gen_lawbound.py. -/
import Derived.Test.YtmnmepbljegjeaaGreatDoorBa46
import Derived.Test.YtmnmepbljegjeaaGreatDoorBa71
namespace Go.Proofs.YtmnmepbljegjeaaGreatDoor.lawBound
open Go.RowKit _root_.Go.Proofs.YtmnmepbljegjeaaGreatDoor.Nm _root_.Go.Proofs.YtmnmepbljegjeaaGreatDoor.Nt _root_.Go.Proofs.YtmnmepbljegjeaaGreatDoor.Ch _root_.Go.Proofs.YtmnmepbljegjeaaGreatDoor.lawLine
theorem chance_is (d k : Int) (n m : ByteArray) (hn : n.size ≤ maxLen) (hm : m.size ≤ maxLen) (p z o p' : Int) (hp : p = p') (s t : ByteArray) (f : Int) (hs : chanN d k n m p' z o = s ∧ chanD d k n m p' z o = t ∧ chanF d k n m p' z o = f) (w : World) :
  Calls Tryz.prog 50 #[.agg #[.int .i64 d, .int .i64 k, .string n, .string m], .int .i64 p, .int .i64 z, .int .i64 o] w (AnsPost w s t f) := by
 subst hp
 obtain ⟨h1, h2, h3⟩ := hs
 subst h1; subst h2; subst h3
 exact chance_at d k n m hn hm p z o w
set_option maxRecDepth 100000 in
set_option maxHeartbeats 16000000 in
theorem walk (d k : Int) (n m : ByteArray) (hn : n.size ≤ maxLen) (hm : m.size ≤ maxLen) (p z o : Int) (w : World) (ht : Tab w) :
  Calls Tryz.prog 9 #[.agg #[.int .i64 d, .int .i64 k, .string n, .string m], .int .i64 p, .int .i64 z, .int .i64 o] w fun e w' => e = .returned (.bool true) ∧ Below w.heap.size w w' := by
 go_enter Tryz.func9, Tryz.ntmps9
 have HT0 := Lib.hid ht
 clear ht
 go_upto_region 1 with (fail)
 refine wp_box1 fun w1' hsz hbW hA0 => ?_
 clear hsz
 have HB_t := Lib.hid hA0
 have HW := Lib.hid hbW
 clear hbW hA0
 go_wp2_with fail
 refine (awake_at w1').mono ?_
 rintro e w2' ⟨rfl, hbz⟩
 replace HB_t := Lib.hid (HB_t.out.ext hbz)
 replace HW := Lib.hid (ext_trans HW.out hbz)
 clear hbz
 have c_t_0 : w2'.cell? ⟨w.heap.size, 0, none⟩ = some (.int .i64 d) := HB_t.out.2 0
 have c_t_1 : w2'.cell? ⟨w.heap.size, 1, none⟩ = some (.int .i64 k) := HB_t.out.2 1
 have c_t_2 : w2'.cell? ⟨w.heap.size, 2, none⟩ = some (.string n) := HB_t.out.2 2
 have c_t_3 : w2'.cell? ⟨w.heap.size, 3, none⟩ = some (.string m) := HB_t.out.2 3
 by_cases hf : chanF d k n m p z z = 0
 ·obtain ⟨htf, hr⟩ := chan_right hf
  obtain ⟨d1, d3, k1, k5, hmi⟩ := test_ok htf
  obtain ⟨q, hq, hrq, rfl, rfl, h0, h1q, hlq⟩ := miss_parts hmi
  have hr' := hr
  unfold chR at hr'
  obtain ⟨kn, rfl⟩ : ∃ x : Nat, k = (x : Int) := ⟨k.toNat, by omega⟩
  obtain ⟨pn, rfl⟩ : ∃ x : Nat, p = (x : Int) := ⟨p.toNat, by omega⟩
  obtain ⟨zn, rfl⟩ : ∃ x : Nat, z = (x : Int) := ⟨z.toNat, by omega⟩
  have hpn : pn ≤ 8 := by omega
  have hzn : zn ≤ 1000 := by omega
  have hk1 : 1 ≤ kn := by omega
  have HCI : Hid (∀ p o : Nat, p ≤ 8 → o ≤ 1000 → chanN d (kn : Int) (showN q) (showD q) (p : Int) (zn : Int) (o : Int) = showN (chQ d kn q⁻¹ p zn o p) ∧ chanD d (kn : Int) (showN q) (showD q) (p : Int) (zn : Int) (o : Int) = showD (chQ d kn q⁻¹ p zn o p) ∧ chanF d (kn : Int) (showN q) (showD q) (p : Int) (zn : Int) (o : Int) = 0) := Lib.hid fun p o hp ho => chan_is hq htf hp hzn ho
  have HQ := Lib.hid hq
  have HD := Lib.hid (And.intro d1 (And.intro d3 h0))
  have HTF := Lib.hid htf
  obtain ⟨A, hA⟩ : ∃ A, chQ d kn q⁻¹ pn zn zn pn = A := ⟨_, rfl⟩
  have HA : Hid (Fits A ∧ decide (q < A) = false) := Lib.hid ⟨hA ▸ chQ_fits _ _ _ hpn hpn hzn hzn, decide_eq_false (fun h => by have := chQ_le d1 d3 hk1 h0 (n := pn) (k := pn) hzn hzn (leans_same d zn); rw [hA] at this; exact absurd h (Rat.not_lt.2 this))⟩
  have HAS := Lib.hid (HCI.out pn zn hpn hzn)
  rw [hA] at HAS
  have HSZ := Lib.hid (And.intro hn hm)
  clear hr hr' hf hmi hrq h1q hlq k1 k5 hA hq htf d1 d3 h0 hn hm
  clear c_t_0 c_t_1 c_t_2 c_t_3
  have c_t_0 : w2'.cell? ⟨w.heap.size, 0, none⟩ = some (.int .i64 d) := HB_t.out.2 0
  have c_t_1 : w2'.cell? ⟨w.heap.size, 1, none⟩ = some (.int .i64 (kn : Int)) := HB_t.out.2 1
  have c_t_2 : w2'.cell? ⟨w.heap.size, 2, none⟩ = some (.string (showN q)) := HB_t.out.2 2
  have c_t_3 : w2'.cell? ⟨w.heap.size, 3, none⟩ = some (.string (showD q)) := HB_t.out.2 3
  go_wp2_with fail
  refine (chance_is d (kn : Int) (showN q) (showD q) HSZ.out.1 HSZ.out.2 (pn : Int) (zn : Int) (zn : Int) (pn : Int) rfl _ _ _ HAS.out w2').mono ?_
  rintro e w3' ⟨rfl, hbz⟩
  replace HB_t := Lib.hid (HB_t.out.ext hbz)
  replace HW := Lib.hid (ext_trans HW.out hbz)
  clear c_t_0 c_t_1 c_t_2 c_t_3
  clear hbz
  go_upto_region 4 with (fail)
  refine wp_box1 fun w4' hsz hbz hC => ?_
  clear hsz
  have lt_t_a : w.heap.size < w3'.heap.size := HB_t.out.1
  have le_a : w.heap.size ≤ w3'.heap.size := HW.out.size
  replace HB_t := Lib.hid (HB_t.out.ext hbz)
  replace HW := Lib.hid (ext_trans HW.out hbz)
  clear hbz
  have HB_a := Lib.hid hC
  clear hC
  generalize w3'.heap.size = b_a at *
  have c_t_0 : w4'.cell? ⟨w.heap.size, 0, none⟩ = some (.int .i64 d) := HB_t.out.2 0
  have c_t_1 : w4'.cell? ⟨w.heap.size, 1, none⟩ = some (.int .i64 (kn : Int)) := HB_t.out.2 1
  have c_t_2 : w4'.cell? ⟨w.heap.size, 2, none⟩ = some (.string (showN q)) := HB_t.out.2 2
  have c_t_3 : w4'.cell? ⟨w.heap.size, 3, none⟩ = some (.string (showD q)) := HB_t.out.2 3
  have c_a_0 : w4'.cell? ⟨b_a, 0, none⟩ = some (.string (showN (A))) := HB_a.out.2 0
  have c_a_1 : w4'.cell? ⟨b_a, 1, none⟩ = some (.string (showD (A))) := HB_a.out.2 1
  go_wp2_with fail
  refine (less_is q A false HA.out.2 HQ.out HA.out.1 w4' (HT0.out.ext HW.out)).mono ?_
  rintro e w5' ⟨rfl, hbz⟩
  replace HB_t := Lib.hid (HB_t.out.ext hbz)
  replace HB_a := Lib.hid (HB_a.out.ext hbz)
  replace HW := Lib.hid (ext_trans HW.out hbz)
  clear c_t_0 c_t_1 c_t_2 c_t_3 c_a_0 c_a_1
  clear hbz
  have c_t_0 : w5'.cell? ⟨w.heap.size, 0, none⟩ = some (.int .i64 d) := HB_t.out.2 0
  have c_t_1 : w5'.cell? ⟨w.heap.size, 1, none⟩ = some (.int .i64 (kn : Int)) := HB_t.out.2 1
  have c_t_2 : w5'.cell? ⟨w.heap.size, 2, none⟩ = some (.string (showN q)) := HB_t.out.2 2
  have c_t_3 : w5'.cell? ⟨w.heap.size, 3, none⟩ = some (.string (showD q)) := HB_t.out.2 3
  by_cases hoR : 0 ≤ o ∧ o ≤ 1000
  ·obtain ⟨on, rfl⟩ : ∃ x : Nat, o = (x : Int) := ⟨o.toNat, by omega⟩
   have hon : on ≤ 1000 := by omega
   clear hoR
   obtain ⟨B, hB⟩ : ∃ B, chQ d kn q⁻¹ pn zn on pn = B := ⟨_, rfl⟩
   have HBB := Lib.hid hB
   have HBF : Hid (Fits B) := Lib.hid (hB ▸ chQ_fits _ _ _ hpn hpn hzn hon)
   have HBS := Lib.hid (HCI.out pn on hpn hon)
   rw [hB] at HBS
   clear hB
   go_wp2_with fail
   refine (chance_is d (kn : Int) (showN q) (showD q) HSZ.out.1 HSZ.out.2 (pn : Int) (zn : Int) (on : Int) (pn : Int) rfl _ _ _ HBS.out w5').mono ?_
   rintro e w6' ⟨rfl, hbz⟩
   replace HB_t := Lib.hid (HB_t.out.ext hbz)
   replace HB_a := Lib.hid (HB_a.out.ext hbz)
   replace HW := Lib.hid (ext_trans HW.out hbz)
   clear c_t_0 c_t_1 c_t_2 c_t_3
   clear hbz
   go_upto_region 9 with (fail)
   refine wp_box1 fun w7' hsz hbz hC => ?_
   clear hsz
   have lt_t_b : w.heap.size < w6'.heap.size := HB_t.out.1
   have lt_a_b : b_a < w6'.heap.size := HB_a.out.1
   have le_b : w.heap.size ≤ w6'.heap.size := HW.out.size
   replace HB_t := Lib.hid (HB_t.out.ext hbz)
   replace HB_a := Lib.hid (HB_a.out.ext hbz)
   replace HW := Lib.hid (ext_trans HW.out hbz)
   clear hbz
   have HB_b := Lib.hid hC
   clear hC
   generalize w6'.heap.size = b_b at *
   have hd3 := HD.out
   obtain rfl | rfl | rfl : d = 1 ∨ d = 2 ∨ d = 3 := by omega
   ·clear hd3
    by_cases hle : on ≤ zn
    ·have HLB : Hid (decide (q < B) = false) := Lib.hid (decide_eq_false (fun h => by have := chQ_le HD.out.1 HD.out.2.1 hk1 HD.out.2.2 (n := pn) (k := pn) hzn hon (leans_more hle hzn); rw [HBB.out] at this; exact absurd h (Rat.not_lt.2 this)))
     have c_t_0 : w7'.cell? ⟨w.heap.size, 0, none⟩ = some (.int .i64 1) := HB_t.out.2 0
     have c_t_1 : w7'.cell? ⟨w.heap.size, 1, none⟩ = some (.int .i64 (kn : Int)) := HB_t.out.2 1
     have c_t_2 : w7'.cell? ⟨w.heap.size, 2, none⟩ = some (.string (showN q)) := HB_t.out.2 2
     have c_t_3 : w7'.cell? ⟨w.heap.size, 3, none⟩ = some (.string (showD q)) := HB_t.out.2 3
     have c_b_0 : w7'.cell? ⟨b_b, 0, none⟩ = some (.string (showN (B))) := HB_b.out.2 0
     have c_b_1 : w7'.cell? ⟨b_b, 1, none⟩ = some (.string (showD (B))) := HB_b.out.2 1
     go_wp2_with fail
     refine (less_is q B false HLB.out HQ.out HBF.out w7' (HT0.out.ext HW.out)).mono ?_
     rintro e w8' ⟨rfl, hbz⟩
     replace HB_t := Lib.hid (HB_t.out.ext hbz)
     replace HB_a := Lib.hid (HB_a.out.ext hbz)
     replace HB_b := Lib.hid (HB_b.out.ext hbz)
     replace HW := Lib.hid (ext_trans HW.out hbz)
     clear c_t_0 c_t_1 c_t_2 c_t_3 c_b_0 c_b_1
     clear hbz
     have c_t_0 : w8'.cell? ⟨w.heap.size, 0, none⟩ = some (.int .i64 1) := HB_t.out.2 0
     have c_t_1 : w8'.cell? ⟨w.heap.size, 1, none⟩ = some (.int .i64 (kn : Int)) := HB_t.out.2 1
     have c_t_2 : w8'.cell? ⟨w.heap.size, 2, none⟩ = some (.string (showN q)) := HB_t.out.2 2
     have c_t_3 : w8'.cell? ⟨w.heap.size, 3, none⟩ = some (.string (showD q)) := HB_t.out.2 3
     go_upto_region 13 with (fail)
     clear c_t_0 c_t_1 c_t_2 c_t_3
     have c_t_0 : w8'.cell? ⟨w.heap.size, 0, none⟩ = some (.int .i64 1) := HB_t.out.2 0
     have c_t_1 : w8'.cell? ⟨w.heap.size, 1, none⟩ = some (.int .i64 (kn : Int)) := HB_t.out.2 1
     have c_t_2 : w8'.cell? ⟨w.heap.size, 2, none⟩ = some (.string (showN q)) := HB_t.out.2 2
     have c_t_3 : w8'.cell? ⟨w.heap.size, 3, none⟩ = some (.string (showD q)) := HB_t.out.2 3
     have e7 : IntKind.i64.wrap ((pn : Int) + 1) = (pn : Int) + 1 := IntWalk.i64_in _ (by omega)
     by_cases h8 : pn + 1 ≤ 8
     ·obtain ⟨C, hC⟩ : ∃ C, chQ 1 kn q⁻¹ (pn + 1) zn on (pn + 1) = C := ⟨_, rfl⟩
      have HCF : Hid (Fits C ∧ decide (C < B) = false) := Lib.hid ⟨hC ▸ chQ_fits _ _ _ h8 h8 hzn hon, decide_eq_false (fun h => by have := chQ_more 1 kn q⁻¹ pn zn on; rw [hC, HBB.out] at this; exact absurd h (Rat.not_lt.2 this))⟩
      have HCS := Lib.hid (HCI.out (pn + 1) on h8 hon)
      rw [hC] at HCS
      clear hC
      go_wp2_with fail
      refine (chance_is 1 (kn : Int) (showN q) (showD q) HSZ.out.1 HSZ.out.2 _ (zn : Int) (on : Int) ((pn + 1 : Nat) : Int) (by omega) _ _ _ HCS.out w8').mono ?_
      rintro e w9' ⟨rfl, hbz⟩
      replace HB_t := Lib.hid (HB_t.out.ext hbz)
      replace HB_a := Lib.hid (HB_a.out.ext hbz)
      replace HB_b := Lib.hid (HB_b.out.ext hbz)
      replace HW := Lib.hid (ext_trans HW.out hbz)
      clear c_t_0 c_t_1 c_t_2 c_t_3
      clear hbz
      clear e7
      go_upto_region 14 with (fail)
      refine wp_box1 fun w10' hsz hbz hC => ?_
      clear hsz
      have lt_t_c : w.heap.size < w9'.heap.size := HB_t.out.1
      have lt_a_c : b_a < w9'.heap.size := HB_a.out.1
      have lt_b_c : b_b < w9'.heap.size := HB_b.out.1
      have le_c : w.heap.size ≤ w9'.heap.size := HW.out.size
      replace HB_t := Lib.hid (HB_t.out.ext hbz)
      replace HB_a := Lib.hid (HB_a.out.ext hbz)
      replace HB_b := Lib.hid (HB_b.out.ext hbz)
      replace HW := Lib.hid (ext_trans HW.out hbz)
      clear hbz
      have HB_c := Lib.hid hC
      clear hC
      generalize w9'.heap.size = b_c at *
      have c_b_0 : w10'.cell? ⟨b_b, 0, none⟩ = some (.string (showN (B))) := HB_b.out.2 0
      have c_b_1 : w10'.cell? ⟨b_b, 1, none⟩ = some (.string (showD (B))) := HB_b.out.2 1
      have c_c_0 : w10'.cell? ⟨b_c, 0, none⟩ = some (.string (showN (C))) := HB_c.out.2 0
      have c_c_1 : w10'.cell? ⟨b_c, 1, none⟩ = some (.string (showD (C))) := HB_c.out.2 1
      go_wp2_with fail
      refine (less_is C B false HCF.out.2 HCF.out.1 HBF.out w10' (HT0.out.ext HW.out)).mono ?_
      rintro e w11' ⟨rfl, hbz⟩
      replace HB_t := Lib.hid (HB_t.out.ext hbz)
      replace HB_a := Lib.hid (HB_a.out.ext hbz)
      replace HB_b := Lib.hid (HB_b.out.ext hbz)
      replace HB_c := Lib.hid (HB_c.out.ext hbz)
      replace HW := Lib.hid (ext_trans HW.out hbz)
      clear c_b_0 c_b_1 c_c_0 c_c_1
      clear hbz
      go_wp2
      go_ret
      exact ⟨by simp, HW.out⟩
     ·have hro : ¬ chR ((pn + 1 : Nat) : Int) (zn : Int) (on : Int) := fun h => h8 (by unfold chR at h; omega)
      have HS := Lib.hid (chan_out HTF.out hro)
      clear hro
      go_wp2_with fail
      refine (chance_is 1 (kn : Int) (showN q) (showD q) HSZ.out.1 HSZ.out.2 _ (zn : Int) (on : Int) ((pn + 1 : Nat) : Int) (by omega) _ _ _ HS.out w8').mono ?_
      rintro e w9' ⟨rfl, hbz⟩
      replace HB_t := Lib.hid (HB_t.out.ext hbz)
      replace HB_a := Lib.hid (HB_a.out.ext hbz)
      replace HB_b := Lib.hid (HB_b.out.ext hbz)
      replace HW := Lib.hid (ext_trans HW.out hbz)
      clear c_t_0 c_t_1 c_t_2 c_t_3
      clear hbz
      clear e7
      go_upto_region 14 with (fail)
      refine wp_box1 fun w10' hsz hbz hC => ?_
      clear hsz
      have lt_t_c : w.heap.size < w9'.heap.size := HB_t.out.1
      have lt_a_c : b_a < w9'.heap.size := HB_a.out.1
      have lt_b_c : b_b < w9'.heap.size := HB_b.out.1
      have le_c : w.heap.size ≤ w9'.heap.size := HW.out.size
      replace HB_t := Lib.hid (HB_t.out.ext hbz)
      replace HB_a := Lib.hid (HB_a.out.ext hbz)
      replace HB_b := Lib.hid (HB_b.out.ext hbz)
      replace HW := Lib.hid (ext_trans HW.out hbz)
      clear hbz
      have HB_c := Lib.hid hC
      clear hC
      generalize w9'.heap.size = b_c at *
      go_wp2
      go_ret
      exact ⟨by simp, HW.out⟩
    ·have c_t_0 : w7'.cell? ⟨w.heap.size, 0, none⟩ = some (.int .i64 1) := HB_t.out.2 0
     have c_t_1 : w7'.cell? ⟨w.heap.size, 1, none⟩ = some (.int .i64 (kn : Int)) := HB_t.out.2 1
     have c_t_2 : w7'.cell? ⟨w.heap.size, 2, none⟩ = some (.string (showN q)) := HB_t.out.2 2
     have c_t_3 : w7'.cell? ⟨w.heap.size, 3, none⟩ = some (.string (showD q)) := HB_t.out.2 3
     have c_b_0 : w7'.cell? ⟨b_b, 0, none⟩ = some (.string (showN (B))) := HB_b.out.2 0
     have c_b_1 : w7'.cell? ⟨b_b, 1, none⟩ = some (.string (showD (B))) := HB_b.out.2 1
     have hle9 : decide ((on : Int) ≤ (zn : Int)) = false := decide_eq_false (by omega)
     go_upto_region 13 with (fail)
     clear hle9
     clear c_t_0 c_t_1 c_t_2 c_t_3 c_b_0 c_b_1
     have c_t_0 : w7'.cell? ⟨w.heap.size, 0, none⟩ = some (.int .i64 1) := HB_t.out.2 0
     have c_t_1 : w7'.cell? ⟨w.heap.size, 1, none⟩ = some (.int .i64 (kn : Int)) := HB_t.out.2 1
     have c_t_2 : w7'.cell? ⟨w.heap.size, 2, none⟩ = some (.string (showN q)) := HB_t.out.2 2
     have c_t_3 : w7'.cell? ⟨w.heap.size, 3, none⟩ = some (.string (showD q)) := HB_t.out.2 3
     have e7 : IntKind.i64.wrap ((pn : Int) + 1) = (pn : Int) + 1 := IntWalk.i64_in _ (by omega)
     by_cases h8 : pn + 1 ≤ 8
     ·obtain ⟨C, hC⟩ : ∃ C, chQ 1 kn q⁻¹ (pn + 1) zn on (pn + 1) = C := ⟨_, rfl⟩
      have HCF : Hid (Fits C ∧ decide (C < B) = false) := Lib.hid ⟨hC ▸ chQ_fits _ _ _ h8 h8 hzn hon, decide_eq_false (fun h => by have := chQ_more 1 kn q⁻¹ pn zn on; rw [hC, HBB.out] at this; exact absurd h (Rat.not_lt.2 this))⟩
      have HCS := Lib.hid (HCI.out (pn + 1) on h8 hon)
      rw [hC] at HCS
      clear hC
      go_wp2_with fail
      refine (chance_is 1 (kn : Int) (showN q) (showD q) HSZ.out.1 HSZ.out.2 _ (zn : Int) (on : Int) ((pn + 1 : Nat) : Int) (by omega) _ _ _ HCS.out w7').mono ?_
      rintro e w8' ⟨rfl, hbz⟩
      replace HB_t := Lib.hid (HB_t.out.ext hbz)
      replace HB_a := Lib.hid (HB_a.out.ext hbz)
      replace HB_b := Lib.hid (HB_b.out.ext hbz)
      replace HW := Lib.hid (ext_trans HW.out hbz)
      clear c_t_0 c_t_1 c_t_2 c_t_3
      clear hbz
      clear e7
      go_upto_region 14 with (fail)
      refine wp_box1 fun w9' hsz hbz hC => ?_
      clear hsz
      have lt_t_c : w.heap.size < w8'.heap.size := HB_t.out.1
      have lt_a_c : b_a < w8'.heap.size := HB_a.out.1
      have lt_b_c : b_b < w8'.heap.size := HB_b.out.1
      have le_c : w.heap.size ≤ w8'.heap.size := HW.out.size
      replace HB_t := Lib.hid (HB_t.out.ext hbz)
      replace HB_a := Lib.hid (HB_a.out.ext hbz)
      replace HB_b := Lib.hid (HB_b.out.ext hbz)
      replace HW := Lib.hid (ext_trans HW.out hbz)
      clear hbz
      have HB_c := Lib.hid hC
      clear hC
      generalize w8'.heap.size = b_c at *
      have c_b_0 : w9'.cell? ⟨b_b, 0, none⟩ = some (.string (showN (B))) := HB_b.out.2 0
      have c_b_1 : w9'.cell? ⟨b_b, 1, none⟩ = some (.string (showD (B))) := HB_b.out.2 1
      have c_c_0 : w9'.cell? ⟨b_c, 0, none⟩ = some (.string (showN (C))) := HB_c.out.2 0
      have c_c_1 : w9'.cell? ⟨b_c, 1, none⟩ = some (.string (showD (C))) := HB_c.out.2 1
      go_wp2_with fail
      refine (less_is C B false HCF.out.2 HCF.out.1 HBF.out w9' (HT0.out.ext HW.out)).mono ?_
      rintro e w10' ⟨rfl, hbz⟩
      replace HB_t := Lib.hid (HB_t.out.ext hbz)
      replace HB_a := Lib.hid (HB_a.out.ext hbz)
      replace HB_b := Lib.hid (HB_b.out.ext hbz)
      replace HB_c := Lib.hid (HB_c.out.ext hbz)
      replace HW := Lib.hid (ext_trans HW.out hbz)
      clear c_b_0 c_b_1 c_c_0 c_c_1
      clear hbz
      go_wp2
      go_ret
      exact ⟨by simp, HW.out⟩
     ·have hro : ¬ chR ((pn + 1 : Nat) : Int) (zn : Int) (on : Int) := fun h => h8 (by unfold chR at h; omega)
      have HS := Lib.hid (chan_out HTF.out hro)
      clear hro
      go_wp2_with fail
      refine (chance_is 1 (kn : Int) (showN q) (showD q) HSZ.out.1 HSZ.out.2 _ (zn : Int) (on : Int) ((pn + 1 : Nat) : Int) (by omega) _ _ _ HS.out w7').mono ?_
      rintro e w8' ⟨rfl, hbz⟩
      replace HB_t := Lib.hid (HB_t.out.ext hbz)
      replace HB_a := Lib.hid (HB_a.out.ext hbz)
      replace HB_b := Lib.hid (HB_b.out.ext hbz)
      replace HW := Lib.hid (ext_trans HW.out hbz)
      clear c_t_0 c_t_1 c_t_2 c_t_3
      clear hbz
      clear e7
      go_upto_region 14 with (fail)
      refine wp_box1 fun w9' hsz hbz hC => ?_
      clear hsz
      have lt_t_c : w.heap.size < w8'.heap.size := HB_t.out.1
      have lt_a_c : b_a < w8'.heap.size := HB_a.out.1
      have lt_b_c : b_b < w8'.heap.size := HB_b.out.1
      have le_c : w.heap.size ≤ w8'.heap.size := HW.out.size
      replace HB_t := Lib.hid (HB_t.out.ext hbz)
      replace HB_a := Lib.hid (HB_a.out.ext hbz)
      replace HB_b := Lib.hid (HB_b.out.ext hbz)
      replace HW := Lib.hid (ext_trans HW.out hbz)
      clear hbz
      have HB_c := Lib.hid hC
      clear hC
      generalize w8'.heap.size = b_c at *
      go_wp2
      go_ret
      exact ⟨by simp, HW.out⟩
   ·clear hd3
    by_cases hle : zn ≤ on
    ·have HLB : Hid (decide (q < B) = false) := Lib.hid (decide_eq_false (fun h => by have := chQ_le HD.out.1 HD.out.2.1 hk1 HD.out.2.2 (n := pn) (k := pn) hzn hon (leans_less hle hon); rw [HBB.out] at this; exact absurd h (Rat.not_lt.2 this)))
     have c_t_0 : w7'.cell? ⟨w.heap.size, 0, none⟩ = some (.int .i64 2) := HB_t.out.2 0
     have c_t_1 : w7'.cell? ⟨w.heap.size, 1, none⟩ = some (.int .i64 (kn : Int)) := HB_t.out.2 1
     have c_t_2 : w7'.cell? ⟨w.heap.size, 2, none⟩ = some (.string (showN q)) := HB_t.out.2 2
     have c_t_3 : w7'.cell? ⟨w.heap.size, 3, none⟩ = some (.string (showD q)) := HB_t.out.2 3
     have c_b_0 : w7'.cell? ⟨b_b, 0, none⟩ = some (.string (showN (B))) := HB_b.out.2 0
     have c_b_1 : w7'.cell? ⟨b_b, 1, none⟩ = some (.string (showD (B))) := HB_b.out.2 1
     go_wp2_with fail
     refine (less_is q B false HLB.out HQ.out HBF.out w7' (HT0.out.ext HW.out)).mono ?_
     rintro e w8' ⟨rfl, hbz⟩
     replace HB_t := Lib.hid (HB_t.out.ext hbz)
     replace HB_a := Lib.hid (HB_a.out.ext hbz)
     replace HB_b := Lib.hid (HB_b.out.ext hbz)
     replace HW := Lib.hid (ext_trans HW.out hbz)
     clear c_t_0 c_t_1 c_t_2 c_t_3 c_b_0 c_b_1
     clear hbz
     have c_t_0 : w8'.cell? ⟨w.heap.size, 0, none⟩ = some (.int .i64 2) := HB_t.out.2 0
     have c_t_1 : w8'.cell? ⟨w.heap.size, 1, none⟩ = some (.int .i64 (kn : Int)) := HB_t.out.2 1
     have c_t_2 : w8'.cell? ⟨w.heap.size, 2, none⟩ = some (.string (showN q)) := HB_t.out.2 2
     have c_t_3 : w8'.cell? ⟨w.heap.size, 3, none⟩ = some (.string (showD q)) := HB_t.out.2 3
     go_upto_region 13 with (fail)
     clear c_t_0 c_t_1 c_t_2 c_t_3
     have c_t_0 : w8'.cell? ⟨w.heap.size, 0, none⟩ = some (.int .i64 2) := HB_t.out.2 0
     have c_t_1 : w8'.cell? ⟨w.heap.size, 1, none⟩ = some (.int .i64 (kn : Int)) := HB_t.out.2 1
     have c_t_2 : w8'.cell? ⟨w.heap.size, 2, none⟩ = some (.string (showN q)) := HB_t.out.2 2
     have c_t_3 : w8'.cell? ⟨w.heap.size, 3, none⟩ = some (.string (showD q)) := HB_t.out.2 3
     have e7 : IntKind.i64.wrap ((pn : Int) + 1) = (pn : Int) + 1 := IntWalk.i64_in _ (by omega)
     by_cases h8 : pn + 1 ≤ 8
     ·obtain ⟨C, hC⟩ : ∃ C, chQ 2 kn q⁻¹ (pn + 1) zn on (pn + 1) = C := ⟨_, rfl⟩
      have HCF : Hid (Fits C ∧ decide (C < B) = false) := Lib.hid ⟨hC ▸ chQ_fits _ _ _ h8 h8 hzn hon, decide_eq_false (fun h => by have := chQ_more 2 kn q⁻¹ pn zn on; rw [hC, HBB.out] at this; exact absurd h (Rat.not_lt.2 this))⟩
      have HCS := Lib.hid (HCI.out (pn + 1) on h8 hon)
      rw [hC] at HCS
      clear hC
      go_wp2_with fail
      refine (chance_is 2 (kn : Int) (showN q) (showD q) HSZ.out.1 HSZ.out.2 _ (zn : Int) (on : Int) ((pn + 1 : Nat) : Int) (by omega) _ _ _ HCS.out w8').mono ?_
      rintro e w9' ⟨rfl, hbz⟩
      replace HB_t := Lib.hid (HB_t.out.ext hbz)
      replace HB_a := Lib.hid (HB_a.out.ext hbz)
      replace HB_b := Lib.hid (HB_b.out.ext hbz)
      replace HW := Lib.hid (ext_trans HW.out hbz)
      clear c_t_0 c_t_1 c_t_2 c_t_3
      clear hbz
      clear e7
      go_upto_region 14 with (fail)
      refine wp_box1 fun w10' hsz hbz hC => ?_
      clear hsz
      have lt_t_c : w.heap.size < w9'.heap.size := HB_t.out.1
      have lt_a_c : b_a < w9'.heap.size := HB_a.out.1
      have lt_b_c : b_b < w9'.heap.size := HB_b.out.1
      have le_c : w.heap.size ≤ w9'.heap.size := HW.out.size
      replace HB_t := Lib.hid (HB_t.out.ext hbz)
      replace HB_a := Lib.hid (HB_a.out.ext hbz)
      replace HB_b := Lib.hid (HB_b.out.ext hbz)
      replace HW := Lib.hid (ext_trans HW.out hbz)
      clear hbz
      have HB_c := Lib.hid hC
      clear hC
      generalize w9'.heap.size = b_c at *
      have c_b_0 : w10'.cell? ⟨b_b, 0, none⟩ = some (.string (showN (B))) := HB_b.out.2 0
      have c_b_1 : w10'.cell? ⟨b_b, 1, none⟩ = some (.string (showD (B))) := HB_b.out.2 1
      have c_c_0 : w10'.cell? ⟨b_c, 0, none⟩ = some (.string (showN (C))) := HB_c.out.2 0
      have c_c_1 : w10'.cell? ⟨b_c, 1, none⟩ = some (.string (showD (C))) := HB_c.out.2 1
      go_wp2_with fail
      refine (less_is C B false HCF.out.2 HCF.out.1 HBF.out w10' (HT0.out.ext HW.out)).mono ?_
      rintro e w11' ⟨rfl, hbz⟩
      replace HB_t := Lib.hid (HB_t.out.ext hbz)
      replace HB_a := Lib.hid (HB_a.out.ext hbz)
      replace HB_b := Lib.hid (HB_b.out.ext hbz)
      replace HB_c := Lib.hid (HB_c.out.ext hbz)
      replace HW := Lib.hid (ext_trans HW.out hbz)
      clear c_b_0 c_b_1 c_c_0 c_c_1
      clear hbz
      go_wp2
      go_ret
      exact ⟨by simp, HW.out⟩
     ·have hro : ¬ chR ((pn + 1 : Nat) : Int) (zn : Int) (on : Int) := fun h => h8 (by unfold chR at h; omega)
      have HS := Lib.hid (chan_out HTF.out hro)
      clear hro
      go_wp2_with fail
      refine (chance_is 2 (kn : Int) (showN q) (showD q) HSZ.out.1 HSZ.out.2 _ (zn : Int) (on : Int) ((pn + 1 : Nat) : Int) (by omega) _ _ _ HS.out w8').mono ?_
      rintro e w9' ⟨rfl, hbz⟩
      replace HB_t := Lib.hid (HB_t.out.ext hbz)
      replace HB_a := Lib.hid (HB_a.out.ext hbz)
      replace HB_b := Lib.hid (HB_b.out.ext hbz)
      replace HW := Lib.hid (ext_trans HW.out hbz)
      clear c_t_0 c_t_1 c_t_2 c_t_3
      clear hbz
      clear e7
      go_upto_region 14 with (fail)
      refine wp_box1 fun w10' hsz hbz hC => ?_
      clear hsz
      have lt_t_c : w.heap.size < w9'.heap.size := HB_t.out.1
      have lt_a_c : b_a < w9'.heap.size := HB_a.out.1
      have lt_b_c : b_b < w9'.heap.size := HB_b.out.1
      have le_c : w.heap.size ≤ w9'.heap.size := HW.out.size
      replace HB_t := Lib.hid (HB_t.out.ext hbz)
      replace HB_a := Lib.hid (HB_a.out.ext hbz)
      replace HB_b := Lib.hid (HB_b.out.ext hbz)
      replace HW := Lib.hid (ext_trans HW.out hbz)
      clear hbz
      have HB_c := Lib.hid hC
      clear hC
      generalize w9'.heap.size = b_c at *
      go_wp2
      go_ret
      exact ⟨by simp, HW.out⟩
    ·have c_t_0 : w7'.cell? ⟨w.heap.size, 0, none⟩ = some (.int .i64 2) := HB_t.out.2 0
     have c_t_1 : w7'.cell? ⟨w.heap.size, 1, none⟩ = some (.int .i64 (kn : Int)) := HB_t.out.2 1
     have c_t_2 : w7'.cell? ⟨w.heap.size, 2, none⟩ = some (.string (showN q)) := HB_t.out.2 2
     have c_t_3 : w7'.cell? ⟨w.heap.size, 3, none⟩ = some (.string (showD q)) := HB_t.out.2 3
     have c_b_0 : w7'.cell? ⟨b_b, 0, none⟩ = some (.string (showN (B))) := HB_b.out.2 0
     have c_b_1 : w7'.cell? ⟨b_b, 1, none⟩ = some (.string (showD (B))) := HB_b.out.2 1
     have hle9 : decide ((on : Int) ≥ (zn : Int)) = false := decide_eq_false (by omega)
     go_upto_region 13 with (fail)
     clear hle9
     clear c_t_0 c_t_1 c_t_2 c_t_3 c_b_0 c_b_1
     have c_t_0 : w7'.cell? ⟨w.heap.size, 0, none⟩ = some (.int .i64 2) := HB_t.out.2 0
     have c_t_1 : w7'.cell? ⟨w.heap.size, 1, none⟩ = some (.int .i64 (kn : Int)) := HB_t.out.2 1
     have c_t_2 : w7'.cell? ⟨w.heap.size, 2, none⟩ = some (.string (showN q)) := HB_t.out.2 2
     have c_t_3 : w7'.cell? ⟨w.heap.size, 3, none⟩ = some (.string (showD q)) := HB_t.out.2 3
     have e7 : IntKind.i64.wrap ((pn : Int) + 1) = (pn : Int) + 1 := IntWalk.i64_in _ (by omega)
     by_cases h8 : pn + 1 ≤ 8
     ·obtain ⟨C, hC⟩ : ∃ C, chQ 2 kn q⁻¹ (pn + 1) zn on (pn + 1) = C := ⟨_, rfl⟩
      have HCF : Hid (Fits C ∧ decide (C < B) = false) := Lib.hid ⟨hC ▸ chQ_fits _ _ _ h8 h8 hzn hon, decide_eq_false (fun h => by have := chQ_more 2 kn q⁻¹ pn zn on; rw [hC, HBB.out] at this; exact absurd h (Rat.not_lt.2 this))⟩
      have HCS := Lib.hid (HCI.out (pn + 1) on h8 hon)
      rw [hC] at HCS
      clear hC
      go_wp2_with fail
      refine (chance_is 2 (kn : Int) (showN q) (showD q) HSZ.out.1 HSZ.out.2 _ (zn : Int) (on : Int) ((pn + 1 : Nat) : Int) (by omega) _ _ _ HCS.out w7').mono ?_
      rintro e w8' ⟨rfl, hbz⟩
      replace HB_t := Lib.hid (HB_t.out.ext hbz)
      replace HB_a := Lib.hid (HB_a.out.ext hbz)
      replace HB_b := Lib.hid (HB_b.out.ext hbz)
      replace HW := Lib.hid (ext_trans HW.out hbz)
      clear c_t_0 c_t_1 c_t_2 c_t_3
      clear hbz
      clear e7
      go_upto_region 14 with (fail)
      refine wp_box1 fun w9' hsz hbz hC => ?_
      clear hsz
      have lt_t_c : w.heap.size < w8'.heap.size := HB_t.out.1
      have lt_a_c : b_a < w8'.heap.size := HB_a.out.1
      have lt_b_c : b_b < w8'.heap.size := HB_b.out.1
      have le_c : w.heap.size ≤ w8'.heap.size := HW.out.size
      replace HB_t := Lib.hid (HB_t.out.ext hbz)
      replace HB_a := Lib.hid (HB_a.out.ext hbz)
      replace HB_b := Lib.hid (HB_b.out.ext hbz)
      replace HW := Lib.hid (ext_trans HW.out hbz)
      clear hbz
      have HB_c := Lib.hid hC
      clear hC
      generalize w8'.heap.size = b_c at *
      have c_b_0 : w9'.cell? ⟨b_b, 0, none⟩ = some (.string (showN (B))) := HB_b.out.2 0
      have c_b_1 : w9'.cell? ⟨b_b, 1, none⟩ = some (.string (showD (B))) := HB_b.out.2 1
      have c_c_0 : w9'.cell? ⟨b_c, 0, none⟩ = some (.string (showN (C))) := HB_c.out.2 0
      have c_c_1 : w9'.cell? ⟨b_c, 1, none⟩ = some (.string (showD (C))) := HB_c.out.2 1
      go_wp2_with fail
      refine (less_is C B false HCF.out.2 HCF.out.1 HBF.out w9' (HT0.out.ext HW.out)).mono ?_
      rintro e w10' ⟨rfl, hbz⟩
      replace HB_t := Lib.hid (HB_t.out.ext hbz)
      replace HB_a := Lib.hid (HB_a.out.ext hbz)
      replace HB_b := Lib.hid (HB_b.out.ext hbz)
      replace HB_c := Lib.hid (HB_c.out.ext hbz)
      replace HW := Lib.hid (ext_trans HW.out hbz)
      clear c_b_0 c_b_1 c_c_0 c_c_1
      clear hbz
      go_wp2
      go_ret
      exact ⟨by simp, HW.out⟩
     ·have hro : ¬ chR ((pn + 1 : Nat) : Int) (zn : Int) (on : Int) := fun h => h8 (by unfold chR at h; omega)
      have HS := Lib.hid (chan_out HTF.out hro)
      clear hro
      go_wp2_with fail
      refine (chance_is 2 (kn : Int) (showN q) (showD q) HSZ.out.1 HSZ.out.2 _ (zn : Int) (on : Int) ((pn + 1 : Nat) : Int) (by omega) _ _ _ HS.out w7').mono ?_
      rintro e w8' ⟨rfl, hbz⟩
      replace HB_t := Lib.hid (HB_t.out.ext hbz)
      replace HB_a := Lib.hid (HB_a.out.ext hbz)
      replace HB_b := Lib.hid (HB_b.out.ext hbz)
      replace HW := Lib.hid (ext_trans HW.out hbz)
      clear c_t_0 c_t_1 c_t_2 c_t_3
      clear hbz
      clear e7
      go_upto_region 14 with (fail)
      refine wp_box1 fun w9' hsz hbz hC => ?_
      clear hsz
      have lt_t_c : w.heap.size < w8'.heap.size := HB_t.out.1
      have lt_a_c : b_a < w8'.heap.size := HB_a.out.1
      have lt_b_c : b_b < w8'.heap.size := HB_b.out.1
      have le_c : w.heap.size ≤ w8'.heap.size := HW.out.size
      replace HB_t := Lib.hid (HB_t.out.ext hbz)
      replace HB_a := Lib.hid (HB_a.out.ext hbz)
      replace HB_b := Lib.hid (HB_b.out.ext hbz)
      replace HW := Lib.hid (ext_trans HW.out hbz)
      clear hbz
      have HB_c := Lib.hid hC
      clear hC
      generalize w8'.heap.size = b_c at *
      go_wp2
      go_ret
      exact ⟨by simp, HW.out⟩
   ·clear hd3
    have c_t_0 : w7'.cell? ⟨w.heap.size, 0, none⟩ = some (.int .i64 3) := HB_t.out.2 0
    have c_t_1 : w7'.cell? ⟨w.heap.size, 1, none⟩ = some (.int .i64 (kn : Int)) := HB_t.out.2 1
    have c_t_2 : w7'.cell? ⟨w.heap.size, 2, none⟩ = some (.string (showN q)) := HB_t.out.2 2
    have c_t_3 : w7'.cell? ⟨w.heap.size, 3, none⟩ = some (.string (showD q)) := HB_t.out.2 3
    have c_b_0 : w7'.cell? ⟨b_b, 0, none⟩ = some (.string (showN (B))) := HB_b.out.2 0
    have c_b_1 : w7'.cell? ⟨b_b, 1, none⟩ = some (.string (showD (B))) := HB_b.out.2 1
    go_upto_region 13 with (fail)
    clear c_t_0 c_t_1 c_t_2 c_t_3 c_b_0 c_b_1
    have c_t_0 : w7'.cell? ⟨w.heap.size, 0, none⟩ = some (.int .i64 3) := HB_t.out.2 0
    have c_t_1 : w7'.cell? ⟨w.heap.size, 1, none⟩ = some (.int .i64 (kn : Int)) := HB_t.out.2 1
    have c_t_2 : w7'.cell? ⟨w.heap.size, 2, none⟩ = some (.string (showN q)) := HB_t.out.2 2
    have c_t_3 : w7'.cell? ⟨w.heap.size, 3, none⟩ = some (.string (showD q)) := HB_t.out.2 3
    have e7 : IntKind.i64.wrap ((pn : Int) + 1) = (pn : Int) + 1 := IntWalk.i64_in _ (by omega)
    by_cases h8 : pn + 1 ≤ 8
    ·obtain ⟨C, hC⟩ : ∃ C, chQ 3 kn q⁻¹ (pn + 1) zn on (pn + 1) = C := ⟨_, rfl⟩
     have HCF : Hid (Fits C ∧ decide (C < B) = false) := Lib.hid ⟨hC ▸ chQ_fits _ _ _ h8 h8 hzn hon, decide_eq_false (fun h => by have := chQ_more 3 kn q⁻¹ pn zn on; rw [hC, HBB.out] at this; exact absurd h (Rat.not_lt.2 this))⟩
     have HCS := Lib.hid (HCI.out (pn + 1) on h8 hon)
     rw [hC] at HCS
     clear hC
     go_wp2_with fail
     refine (chance_is 3 (kn : Int) (showN q) (showD q) HSZ.out.1 HSZ.out.2 _ (zn : Int) (on : Int) ((pn + 1 : Nat) : Int) (by omega) _ _ _ HCS.out w7').mono ?_
     rintro e w8' ⟨rfl, hbz⟩
     replace HB_t := Lib.hid (HB_t.out.ext hbz)
     replace HB_a := Lib.hid (HB_a.out.ext hbz)
     replace HB_b := Lib.hid (HB_b.out.ext hbz)
     replace HW := Lib.hid (ext_trans HW.out hbz)
     clear c_t_0 c_t_1 c_t_2 c_t_3
     clear hbz
     clear e7
     go_upto_region 14 with (fail)
     refine wp_box1 fun w9' hsz hbz hC => ?_
     clear hsz
     have lt_t_c : w.heap.size < w8'.heap.size := HB_t.out.1
     have lt_a_c : b_a < w8'.heap.size := HB_a.out.1
     have lt_b_c : b_b < w8'.heap.size := HB_b.out.1
     have le_c : w.heap.size ≤ w8'.heap.size := HW.out.size
     replace HB_t := Lib.hid (HB_t.out.ext hbz)
     replace HB_a := Lib.hid (HB_a.out.ext hbz)
     replace HB_b := Lib.hid (HB_b.out.ext hbz)
     replace HW := Lib.hid (ext_trans HW.out hbz)
     clear hbz
     have HB_c := Lib.hid hC
     clear hC
     generalize w8'.heap.size = b_c at *
     have c_b_0 : w9'.cell? ⟨b_b, 0, none⟩ = some (.string (showN (B))) := HB_b.out.2 0
     have c_b_1 : w9'.cell? ⟨b_b, 1, none⟩ = some (.string (showD (B))) := HB_b.out.2 1
     have c_c_0 : w9'.cell? ⟨b_c, 0, none⟩ = some (.string (showN (C))) := HB_c.out.2 0
     have c_c_1 : w9'.cell? ⟨b_c, 1, none⟩ = some (.string (showD (C))) := HB_c.out.2 1
     go_wp2_with fail
     refine (less_is C B false HCF.out.2 HCF.out.1 HBF.out w9' (HT0.out.ext HW.out)).mono ?_
     rintro e w10' ⟨rfl, hbz⟩
     replace HB_t := Lib.hid (HB_t.out.ext hbz)
     replace HB_a := Lib.hid (HB_a.out.ext hbz)
     replace HB_b := Lib.hid (HB_b.out.ext hbz)
     replace HB_c := Lib.hid (HB_c.out.ext hbz)
     replace HW := Lib.hid (ext_trans HW.out hbz)
     clear c_b_0 c_b_1 c_c_0 c_c_1
     clear hbz
     go_wp2
     go_ret
     exact ⟨by simp, HW.out⟩
    ·have hro : ¬ chR ((pn + 1 : Nat) : Int) (zn : Int) (on : Int) := fun h => h8 (by unfold chR at h; omega)
     have HS := Lib.hid (chan_out HTF.out hro)
     clear hro
     go_wp2_with fail
     refine (chance_is 3 (kn : Int) (showN q) (showD q) HSZ.out.1 HSZ.out.2 _ (zn : Int) (on : Int) ((pn + 1 : Nat) : Int) (by omega) _ _ _ HS.out w7').mono ?_
     rintro e w8' ⟨rfl, hbz⟩
     replace HB_t := Lib.hid (HB_t.out.ext hbz)
     replace HB_a := Lib.hid (HB_a.out.ext hbz)
     replace HB_b := Lib.hid (HB_b.out.ext hbz)
     replace HW := Lib.hid (ext_trans HW.out hbz)
     clear c_t_0 c_t_1 c_t_2 c_t_3
     clear hbz
     clear e7
     go_upto_region 14 with (fail)
     refine wp_box1 fun w9' hsz hbz hC => ?_
     clear hsz
     have lt_t_c : w.heap.size < w8'.heap.size := HB_t.out.1
     have lt_a_c : b_a < w8'.heap.size := HB_a.out.1
     have lt_b_c : b_b < w8'.heap.size := HB_b.out.1
     have le_c : w.heap.size ≤ w8'.heap.size := HW.out.size
     replace HB_t := Lib.hid (HB_t.out.ext hbz)
     replace HB_a := Lib.hid (HB_a.out.ext hbz)
     replace HB_b := Lib.hid (HB_b.out.ext hbz)
     replace HW := Lib.hid (ext_trans HW.out hbz)
     clear hbz
     have HB_c := Lib.hid hC
     clear hC
     generalize w8'.heap.size = b_c at *
     go_wp2
     go_ret
     exact ⟨by simp, HW.out⟩
  ·have hro : ¬ chR (pn : Int) (zn : Int) o := fun h => hoR (by unfold chR at h; exact h.2.2)
   have HS := Lib.hid (chan_out HTF.out hro)
   clear hro hoR
   go_wp2_with fail
   refine (chance_is d (kn : Int) (showN q) (showD q) HSZ.out.1 HSZ.out.2 (pn : Int) (zn : Int) o (pn : Int) rfl _ _ _ HS.out w5').mono ?_
   rintro e w6' ⟨rfl, hbz⟩
   replace HB_t := Lib.hid (HB_t.out.ext hbz)
   replace HB_a := Lib.hid (HB_a.out.ext hbz)
   replace HW := Lib.hid (ext_trans HW.out hbz)
   clear c_t_0 c_t_1 c_t_2 c_t_3
   clear hbz
   go_upto_region 9 with (fail)
   refine wp_box1 fun w7' hsz hbz hC => ?_
   clear hsz
   have lt_t_b : w.heap.size < w6'.heap.size := HB_t.out.1
   have lt_a_b : b_a < w6'.heap.size := HB_a.out.1
   have le_b : w.heap.size ≤ w6'.heap.size := HW.out.size
   replace HB_t := Lib.hid (HB_t.out.ext hbz)
   replace HB_a := Lib.hid (HB_a.out.ext hbz)
   replace HW := Lib.hid (ext_trans HW.out hbz)
   clear hbz
   have HB_b := Lib.hid hC
   clear hC
   generalize w6'.heap.size = b_b at *
   go_wp2
   go_ret
   exact ⟨by simp, HW.out⟩
 ·obtain ⟨f, hfe⟩ : ∃ f, chanF d k n m p z z = f := ⟨_, rfl⟩
  have hw := chan_wrong hf (fun h => chT_fits h)
  rw [hfe] at hf
  have HS := Lib.hid (And.intro hw.1 (And.intro hw.2 hfe))
  have hne : (f != 0) = true := by simp [hf]
  clear hw hfe hf
  go_wp2_with fail
  refine (chance_is d k n m hn hm p z z p rfl _ _ _ HS.out w2').mono ?_
  rintro e w3' ⟨rfl, hbz⟩
  replace HB_t := Lib.hid (HB_t.out.ext hbz)
  replace HW := Lib.hid (ext_trans HW.out hbz)
  clear c_t_0 c_t_1 c_t_2 c_t_3
  clear hbz
  go_upto_region 4 with (fail)
  refine wp_box1 fun w4' hsz hbz hC => ?_
  clear hsz
  have lt_t_a : w.heap.size < w3'.heap.size := HB_t.out.1
  have le_a : w.heap.size ≤ w3'.heap.size := HW.out.size
  replace HB_t := Lib.hid (HB_t.out.ext hbz)
  replace HW := Lib.hid (ext_trans HW.out hbz)
  clear hbz
  have HB_a := Lib.hid hC
  clear hC
  generalize w3'.heap.size = b_a at *
  have c_a_0 : w4'.cell? ⟨b_a, 0, none⟩ = some (.string ⟨#[]⟩) := HB_a.out.2 0
  have c_a_1 : w4'.cell? ⟨b_a, 1, none⟩ = some (.string ⟨#[]⟩) := HB_a.out.2 1
  go_wp2
  go_ret
  exact ⟨by simp, HW.out⟩
end Go.Proofs.YtmnmepbljegjeaaGreatDoor.lawBound
