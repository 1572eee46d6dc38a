/- chance of the reference: over grids of places. Printed by gen_rchance.py. -/
import Derived.Test.YtilolnjbpokdnaaGreatDoorBq30
import Derived.Test.YtilolnjbpokdnaaGreatDoorBq43
import Derived.Test.YtilolnjbpokdnaaGreatDoorBq37
import Derived.Test.YtilolnjbpokdnaaGreatDoorBq41
import Derived.Test.YtilolnjbpokdnaaGreatDoorBq42
import Derived.Test.YtilolnjbpokdnaaGreatDoorBq29
import Derived.Test.YtilolnjbpokdnaaGreatDoorBq39
import Derived.Test.YtilolnjbpokdnaaGreatDoorBq40
import Derived.Deep.DeepCutAuto
namespace Go.Proofs.YtilolnjbpokdnaaGreatDoor
open Go.RowKit
namespace Nt
open _root_.Go.Proofs.YtilolnjbpokdnaaGreatDoor.Nm (rF rQ showN showD Fits Ln evR evR_ln)
open _root_.Go.Proofs.YtilolnjbpokdnaaGreatDoor.Ch (Pt arr nxG gv decN decP chF chS rowS gridS rowS_step gridS_step rowS_zero gridS_zero Rnd Rnd.h Rnd.g Rnd.f1 Rnd.f2 Rnd.fu Rnd.fd Rnd.f3 Rnd.f4 Rnd.s Rnd.last rnd_is ch_ref Fit)
open _root_.Go.Proofs.YtilolnjbpokdnaaGreatDoor.lawLine (dec_enough)
theorem kp_set {n x y : Nat} : ∀ u v, u < 9 → v < 9 → KP n x (y + 1) u v → (u = x ∧ v = y) ∨ KP n x y u v := fun u v _ _ h => by unfold KP at *; omega
theorem kp_row {n x : Nat} : ∀ u v, u < 9 → v < 9 → KP n (x + 1) 0 u v → KP n x (n + 1) u v := fun u v _ _ h => by unfold KP at *; omega
theorem kp_all {n : Nat} : ∀ u v, u < 9 → v < 9 → KA n u v → KP n (n + 1) 0 u v := fun u v _ _ h => by unfold KP KA at *; omega
theorem kp_none {n : Nat} : ∀ u v, u < 9 → v < 9 → KP n 0 0 u v → False := fun u v _ _ h => by unfold KP at *; omega
set_option maxRecDepth 100000 in
set_option maxHeartbeats 32000000 in
theorem refchance_at (d : Int) (d1 : 1 ≤ d) (d3 : d ≤ 3) (bets n : Nat) (h1 : 1 ≤ bets) (h5 : bets ≤ 5) (hn : n ≤ 8) (q : Rat) (hq : Fits q) (h0 : 0 < q) (hlq : Ln 100 100 q) (u v e : Rat) (gu : Fit 1000000 1000000 u) (gv' : Fit 1000000 1000000 v) (ge : Fit 1000000 1000000 e) (fu : Fits u) (fv : Fits v) (fe : Fits e) (w : World) (ht : Tab w) :
  Calls Tryz.prog 118 #[.agg #[.int .i64 d, .int .i64 (bets : Int), .string (showN q), .string (showD q)], .int .i64 (n : Int), rtV u, rtV v, rtV e] w (RtP w (chS (decP d bets q⁻¹) u v e n n)) := by
 have hn9 : n < 9 := by omega
 obtain ⟨E, hE⟩ : ∃ E, decN (decP d bets q⁻¹) n = E := ⟨_, rfl⟩
 have HEV : Hid (∀ x y : Nat, x ≤ 8 → y ≤ 8 → Fits (evR d bets x y) ∧ Fits (evR d bets x y * q)) := Lib.hid fun x y hx hy => ⟨(evR_ln h1 h5 (by omega) (by omega)).fits (by omega) (by omega), ((evR_ln h1 h5 (by omega) (by omega)).mul hlq).fits (by omega) (by omega)⟩
 have HE1 : Hid (∀ x y : Nat, x + y ≤ n → (!(decide (evR d bets x y * q < 1))) = E (x, y)) := Lib.hid fun x y h => by rw [← hE]; unfold decN; simp only; rw [decide_eq_true h, Bool.true_and]; exact (dec_enough d1 d3 h1 h0 x y).symm
 have HE2 : Hid (∀ x y : Nat, ¬ x + y ≤ n → E (x, y) = false) := Lib.hid fun x y h => by rw [← hE]; unfold decN; simp only; rw [decide_eq_false h, Bool.false_and]
 have HRN : Hid (∀ j, j < n → Rnd (chF (decP d bets q⁻¹) u v e n j) (nxG E u v e (chF (decP d bets q⁻¹) u v e n j)) (gv E u v e (chF (decP d bets q⁻¹) u v e n j)) E u v e n (chS (decP d bets q⁻¹) u v e n j) (chS (decP d bets q⁻¹) u v e n (j + 1)) ∧ ∀ t : Pt, t.1 ≤ n → t.2 ≤ n → chF (decP d bets q⁻¹) u v e n (j + 1) t = nxG E u v e (chF (decP d bets q⁻¹) u v e n j) t) := Lib.hid fun j hj => by rw [← hE]; exact ⟨rnd_is hn gu gv' ge hj, (ch_ref j hj).1⟩
 have HC0 : Hid (∀ t : Pt, chF (decP d bets q⁻¹) u v e n 0 t = if t = (0, 0) then 1 else 0) := Lib.hid fun t => rfl
 have HS0 : Hid (chS (decP d bets q⁻¹) u v e n 0 = 0) := Lib.hid rfl
 obtain ⟨C, hC⟩ : ∃ C : Nat → Pt → Rat, (fun j => chF (decP d bets q⁻¹) u v e n j) = C := ⟨_, rfl⟩
 obtain ⟨S, hS⟩ : ∃ S : Nat → Rat, (fun j => chS (decP d bets q⁻¹) u v e n j) = S := ⟨_, rfl⟩
 have HRN2 : Hid (∀ j, j < n → Rnd (C j) (nxG E u v e (C j)) (gv E u v e (C j)) E u v e n (S j) (S (j + 1)) ∧ ∀ t : Pt, t.1 ≤ n → t.2 ≤ n → C (j + 1) t = nxG E u v e (C j) t) := Lib.hid (by rw [← hC, ← hS]; exact HRN.out)
 have HC1 : Hid (∀ t : Pt, C 0 t = if t = (0, 0) then 1 else 0) := Lib.hid (by rw [← hC]; exact HC0.out)
 have HS1 : Hid (S 0 = 0) := Lib.hid (by rw [← hS]; exact HS0.out)
 have HRES : Hid (chS (decP d bets q⁻¹) u v e n n = S n) := Lib.hid (by rw [← hS])
 clear HRN HC0 HS0 hC hS hE
 have HFQ := Lib.hid hq
 have hgu := Lib.hid fu
 have hgv := Lib.hid fv
 have hge := Lib.hid fe
 clear gu gv' ge hq h0 hlq fu fv fe
 have hz0 := zeroG
 have hz1 := zeroE
 go_enter Tryz.func118, Tryz.ntmps118
 have HT0 := Lib.hid ht
 clear ht
 go_upto_region 1 with (fail)
 refine wp_box5r fun w1' hsz hbW hA0 hA1 hA2 hA3 hC hF => ?_
 clear hsz
 have HB_t := Lib.hid hA0
 have HB_u := Lib.hid hA1
 have HB_v := Lib.hid hA2
 have HB_e := Lib.hid hA3
 have HB_o := Lib.hid hC
 have HF_o := Lib.hid hF
 have HW := Lib.hid hbW
 clear hbW hA0 hA1 hA2 hA3 hC hF
 go_upto_region 2 with (fail)
 refine wp_grid (zG_ok (fun _ => 0)) fun w2' hbz hG => ?_
 have lt_t_m : w.heap.size < w1'.heap.size := HB_t.out.1
 have lt_u_m : (w.heap.size + 1) < w1'.heap.size := HB_u.out.1
 have lt_v_m : (w.heap.size + 2) < w1'.heap.size := HB_v.out.1
 have lt_e_m : (w.heap.size + 3) < w1'.heap.size := HB_e.out.1
 have lt_o_m : (w.heap.size + 4) < w1'.heap.size := HB_o.out.1
 have le_m : w.heap.size ≤ w1'.heap.size := HW.out.size
 replace HB_t := Lib.hid (HB_t.out.ext hbz)
 replace HB_u := Lib.hid (HB_u.out.ext hbz)
 replace HB_v := Lib.hid (HB_v.out.ext hbz)
 replace HB_e := Lib.hid (HB_e.out.ext hbz)
 replace HF_o := Lib.hid (HF_o.out.ext HB_o.out hbz)
 replace HB_o := Lib.hid (HB_o.out.ext hbz)
 replace HW := Lib.hid (ext_trans HW.out hbz)
 clear hbz
 have H_m : Hid (GB w2' w1'.heap.size (fun _ _ => False) (fun _ => 0)) := Lib.hid hG
 clear hG
 generalize w1'.heap.size = b_m at *
 go_upto_region 3 with (fail)
 refine wp_gride E fun w3' hbz hG => ?_
 have lt_t_x : w.heap.size < w2'.heap.size := HB_t.out.1
 have lt_u_x : (w.heap.size + 1) < w2'.heap.size := HB_u.out.1
 have lt_v_x : (w.heap.size + 2) < w2'.heap.size := HB_v.out.1
 have lt_e_x : (w.heap.size + 3) < w2'.heap.size := HB_e.out.1
 have lt_o_x : (w.heap.size + 4) < w2'.heap.size := HB_o.out.1
 have lt_H_m_x : b_m < w2'.heap.size := H_m.out.lt
 have le_x : w.heap.size ≤ w2'.heap.size := HW.out.size
 replace HB_t := Lib.hid (HB_t.out.ext hbz)
 replace HB_u := Lib.hid (HB_u.out.ext hbz)
 replace HB_v := Lib.hid (HB_v.out.ext hbz)
 replace HB_e := Lib.hid (HB_e.out.ext hbz)
 replace HF_o := Lib.hid (HF_o.out.ext HB_o.out hbz)
 replace HB_o := Lib.hid (HB_o.out.ext hbz)
 replace H_m := Lib.hid (H_m.out.ext hbz)
 replace HW := Lib.hid (ext_trans HW.out hbz)
 clear hbz
 have H_x : Hid (EB w3' w2'.heap.size (fun _ _ => False) E) := Lib.hid hG
 clear hG
 generalize w2'.heap.size = b_x at *
 replace H_m : Hid (GB w3' b_m (KP n 0 0) (fun _ => 0)) := Lib.hid (H_m.out.turn fun u v a b h => (kp_none u v a b h).elim)
 replace H_x : Hid (EB w3' b_x (KP n 0 0) E) := Lib.hid (H_x.out.turn fun u v a b h => kp_none u v a b h)
 clear hz0 hz1
 have hw1 : IntKind.i64.wrap ((n : Int) + 1) = (n : Int) + 1 := IntWalk.i64_in _ (by omega)
 go_wp2
 go_loopw [22] (fun i wr => ∃ x : Nat, x ≤ n + 1 ∧ i = .int .i64 (x : Int) ∧ (Box wr w.heap.size #[.int .i64 d, .int .i64 (bets : Int), .string (showN q), .string (showD q)]) ∧ (Box wr (w.heap.size + 1) #[.string (showN (u)), .string (showD (u))]) ∧ (Box wr (w.heap.size + 2) #[.string (showN (v)), .string (showD (v))]) ∧ (Box wr (w.heap.size + 3) #[.string (showN (e)), .string (showD (e))]) ∧ (Box wr (w.heap.size + 4) #[.string ⟨#[]⟩, .string ⟨#[]⟩]) ∧ (Fre wr (w.heap.size + 4)) ∧ (GB wr b_m (KP n x 0) (fun _ => 0)) ∧ (EB wr b_x (KP n x 0) E) ∧ (Below w.heap.size w wr)) (fun i _ => n + 1 - (intOf i).toNat)
 case atStart => exact ⟨0, by omega, rfl, HB_t.out, HB_u.out, HB_v.out, HB_e.out, HB_o.out, HF_o.out, H_m.out, H_x.out, HW.out⟩
 case round =>
  obtain ⟨x, hx, rfl, q_HB_t, q_HB_u, q_HB_v, q_HB_e, q_HB_o, q_HF_o, q_H_m, q_H_x, q_HW⟩ := hrel
  clear HB_t HB_u HB_v HB_e HB_o HF_o H_m H_x HW
  have HB_t := Lib.hid q_HB_t
  have HB_u := Lib.hid q_HB_u
  have HB_v := Lib.hid q_HB_v
  have HB_e := Lib.hid q_HB_e
  have HB_o := Lib.hid q_HB_o
  have HF_o := Lib.hid q_HF_o
  have H_m := Lib.hid q_H_m
  have H_x := Lib.hid q_H_x
  have HW := Lib.hid q_HW
  clear q_HB_t q_HB_u q_HB_v q_HB_e q_HB_o q_HF_o q_H_m q_H_x q_HW
  generalize hX : wr = X1 at *
  clear hX
  by_cases hlx : x ≤ n
  ·have hx0 : (0 : Int) ≤ (x : Int) := Int.natCast_nonneg _
   have hx1 : (x : Int) < 9 := by omega
   have hx2 : (x : Int) < (n : Int) + 1 := by omega
   have hx3 : (x : Int).toNat = x := by omega
   go_wp2
   go_loopw [27] (fun i wr => ∃ y : Nat, y ≤ n + 1 ∧ i = .int .i64 (y : Int) ∧ (Box wr w.heap.size #[.int .i64 d, .int .i64 (bets : Int), .string (showN q), .string (showD q)]) ∧ (Box wr (w.heap.size + 1) #[.string (showN (u)), .string (showD (u))]) ∧ (Box wr (w.heap.size + 2) #[.string (showN (v)), .string (showD (v))]) ∧ (Box wr (w.heap.size + 3) #[.string (showN (e)), .string (showD (e))]) ∧ (Box wr (w.heap.size + 4) #[.string ⟨#[]⟩, .string ⟨#[]⟩]) ∧ (Fre wr (w.heap.size + 4)) ∧ (GB wr b_m (KP n x y) (fun _ => 0)) ∧ (EB wr b_x (KP n x y) E) ∧ (Below w.heap.size w wr)) (fun i _ => n + 1 - (intOf i).toNat)
   case atStart => exact ⟨0, by omega, rfl, HB_t.out, HB_u.out, HB_v.out, HB_e.out, HB_o.out, HF_o.out, H_m.out, H_x.out, HW.out⟩
   case round =>
    obtain ⟨y, hy, rfl, q_HB_t, q_HB_u, q_HB_v, q_HB_e, q_HB_o, q_HF_o, q_H_m, q_H_x, q_HW⟩ := hrel
    clear HB_t HB_u HB_v HB_e HB_o HF_o H_m H_x HW
    have HB_t := Lib.hid q_HB_t
    have HB_u := Lib.hid q_HB_u
    have HB_v := Lib.hid q_HB_v
    have HB_e := Lib.hid q_HB_e
    have HB_o := Lib.hid q_HB_o
    have HF_o := Lib.hid q_HF_o
    have H_m := Lib.hid q_H_m
    have H_x := Lib.hid q_H_x
    have HW := Lib.hid q_HW
    clear q_HB_t q_HB_u q_HB_v q_HB_e q_HB_o q_HF_o q_H_m q_H_x q_HW
    generalize hX : wr = X2 at *
    clear hX
    by_cases hly : y ≤ n
    ·have hy0 : (0 : Int) ≤ (y : Int) := Int.natCast_nonneg _
     have hy1 : (y : Int) < 9 := by omega
     have hy2 : (y : Int) < (n : Int) + 1 := by omega
     have hy3 : (y : Int).toNat = y := by omega
     have hx9 : x < 9 := by omega
     have hy9 : y < 9 := by omega
     obtain ⟨zq, hzq⟩ : ∃ z : Rat, (0 : Rat) = z := ⟨_, rfl⟩
     have HZQ := Lib.hid hzq
     clear hzq
     go_upto_region 9 with (fail)
     refine Grow.wp_region_grow 5 [TP.eq (.int .i64 (x : Int)), TP.eq (.int .i64 (y : Int)), TP.eq (rtV zq), TP.eq (.pointer (some ⟨b_m, x * 18, none⟩)), TP.eq (.pointer (some ⟨b_m, x * 18 + y * 2, none⟩))] [[], [], [], [0], [3, 1]] (by kernel_rfl) (by kernel_rfl) ⟨?o0g, ?o1g, ?o2g, ?o3g, ?o4g, trivial⟩ ?_
     case o0g =>
      intro w' hb
      show wpList _ _ _ _ _ _
      go_wp2
      exact ⟨rfl, Below.refl _ _, rfl⟩
     case o1g =>
      intro w' hb
      show wpList _ _ _ _ _ _
      go_wp2
      exact ⟨rfl, Below.refl _ _, rfl⟩
     case o2g =>
      intro w' hb
      show wpList _ _ _ _ _ _
      go_wp2_with fail
      refine ((by have h := whole0 w' (HT0.out.ext (ext_trans HW.out hb)); rw [HZQ.out] at h; exact h : Calls _ _ _ w' (RtP w' zq))).mono ?_
      rintro e wz ⟨rfl, hbz⟩
      go_wp2
      exact ⟨rfl, hbz, rfl⟩
     case o3g =>
      intro w' hb v1 hv1
      obtain rfl : v1 = _ := hv1
      show wpList _ _ _ _ _ _
      simp only [Grow.dstOf, zz1, zz3, zz4, Act.put, zz5, zz6, zz7]
      go_wp2
      exact ⟨rfl, Below.refl _ _, rfl⟩
     case o4g =>
      intro w' hb v1 hv1 v2 hv2
      obtain rfl : v1 = _ := hv1
      obtain rfl : v2 = _ := hv2
      show wpList _ _ _ _ _ _
      simp only [Grow.dstOf, zz1, zz2, zz3, zz4, Act.put, zz5, zz6, zz7]
      go_wp2
      exact ⟨rfl, Below.refl _ _, rfl⟩
     intro w4' hbz u0 hu0 u1 hu1 u2 hu2 u3 hu3 u4 hu4
     obtain rfl : u2 = _ := hu2
     obtain rfl : u4 = _ := hu4
     clear hu0 hu1 hu3
     replace HB_t := Lib.hid (HB_t.out.ext hbz)
     replace HB_u := Lib.hid (HB_u.out.ext hbz)
     replace HB_v := Lib.hid (HB_v.out.ext hbz)
     replace HB_e := Lib.hid (HB_e.out.ext hbz)
     replace HF_o := Lib.hid (HF_o.out.ext HB_o.out hbz)
     replace HB_o := Lib.hid (HB_o.out.ext hbz)
     replace H_m := Lib.hid (H_m.out.ext hbz)
     replace H_x := Lib.hid (H_x.out.ext hbz)
     replace HW := Lib.hid (ext_trans HW.out hbz)
     clear hbz
     show wpList _ _ _ _ _ _
     simp only [Act.put, zz5, zz6, zz7]
     obtain ⟨s9, t9, r0, r1, f0, f1⟩ := H_m.out.slot hx9 hy9
     go_upto_region 10 with (fail)
     obtain ⟨w5', hX⟩ : ∃ X, X = ((w4'.setCell ⟨b_m, x * 18 + y * 2, none⟩ (.string (showN zq))).setCell ⟨b_m, x * 18 + y * 2 + 1, none⟩ (.string (showD zq))) := ⟨_, rfl⟩
     rw [← hX]
     have nB_t : Hid (Box w5' w.heap.size #[.int .i64 d, .int .i64 (bets : Int), .string (showN q), .string (showD q)]) := by rw [hX]; exact Lib.hid (boxn_other (boxn_other (HB_t.out) (show w.heap.size ≠ b_m by omega) (x * 18 + y * 2) (.string (showN zq))) (show w.heap.size ≠ b_m by omega) (x * 18 + y * 2 + 1) (.string (showD zq)))
     have nB_u : Hid (Box w5' (w.heap.size + 1) #[.string (showN (u)), .string (showD (u))]) := by rw [hX]; exact Lib.hid (boxn_other (boxn_other (HB_u.out) (show (w.heap.size + 1) ≠ b_m by omega) (x * 18 + y * 2) (.string (showN zq))) (show (w.heap.size + 1) ≠ b_m by omega) (x * 18 + y * 2 + 1) (.string (showD zq)))
     have nB_v : Hid (Box w5' (w.heap.size + 2) #[.string (showN (v)), .string (showD (v))]) := by rw [hX]; exact Lib.hid (boxn_other (boxn_other (HB_v.out) (show (w.heap.size + 2) ≠ b_m by omega) (x * 18 + y * 2) (.string (showN zq))) (show (w.heap.size + 2) ≠ b_m by omega) (x * 18 + y * 2 + 1) (.string (showD zq)))
     have nB_e : Hid (Box w5' (w.heap.size + 3) #[.string (showN (e)), .string (showD (e))]) := by rw [hX]; exact Lib.hid (boxn_other (boxn_other (HB_e.out) (show (w.heap.size + 3) ≠ b_m by omega) (x * 18 + y * 2) (.string (showN zq))) (show (w.heap.size + 3) ≠ b_m by omega) (x * 18 + y * 2 + 1) (.string (showD zq)))
     have nB_o : Hid (Box w5' (w.heap.size + 4) #[.string ⟨#[]⟩, .string ⟨#[]⟩]) := by rw [hX]; exact Lib.hid (boxn_other (boxn_other (HB_o.out) (show (w.heap.size + 4) ≠ b_m by omega) (x * 18 + y * 2) (.string (showN zq))) (show (w.heap.size + 4) ≠ b_m by omega) (x * 18 + y * 2 + 1) (.string (showD zq)))
     have nF_o : Hid (Fre w5' (w.heap.size + 4)) := by rw [hX]; exact Lib.hid (fun j => by simp only [World.frozen?_setCell]; exact HF_o.out j)
     have n_H_m : Hid (GB w5' b_m (KP n x (y + 1)) (fun _ => 0)) := by rw [hX]; exact Lib.hid (H_m.out.set hx9 hy9 zq kp_set (fun _ _ _ _ _ => by rw [← HZQ.out, ite_self]))
     have n_H_x : Hid (EB w5' b_x (KP n x y) E) := by rw [hX]; exact Lib.hid (((H_x.out).other (p := ⟨b_m, x * 18 + y * 2, none⟩) (show b_x ≠ b_m by omega) (.string (showN zq))).other (p := ⟨b_m, x * 18 + y * 2 + 1, none⟩) (show b_x ≠ b_m by omega) (.string (showD zq)))
     have nW : Hid (Below w.heap.size w w5') := by rw [hX]; exact Lib.hid (((HW.out).setCell (p := ⟨b_m, x * 18 + y * 2, none⟩) (show w.heap.size ≤ b_m by omega) (.string (showN zq))).setCell (p := ⟨b_m, x * 18 + y * 2 + 1, none⟩) (show w.heap.size ≤ b_m by omega) (.string (showD zq)))
     clear r0 r1 f0 f1
     clear hX HB_t HB_u HB_v HB_e HB_o HF_o HW H_m H_x
     have HB_t := nB_t; clear nB_t
     have HB_u := nB_u; clear nB_u
     have HB_v := nB_v; clear nB_v
     have HB_e := nB_e; clear nB_e
     have HB_o := nB_o; clear nB_o; have HF_o := nF_o; clear nF_o
     have H_m := n_H_m; clear n_H_m
     have H_x := n_H_x; clear n_H_x
     have HW := nW; clear nW
     obtain ⟨r, hr⟩ : ∃ r, E (x, y) = r := ⟨_, rfl⟩
     have HR := Lib.hid hr
     clear hr
     by_cases hxy : x + y ≤ n
     ·have c_t_0 : w5'.cell? ⟨w.heap.size, 0, none⟩ = some (.int .i64 d) := HB_t.out.2 0
      have c_t_1 : w5'.cell? ⟨w.heap.size, 1, none⟩ = some (.int .i64 (bets : Int)) := HB_t.out.2 1
      have c_t_2 : w5'.cell? ⟨w.heap.size, 2, none⟩ = some (.string (showN q)) := HB_t.out.2 2
      have c_t_3 : w5'.cell? ⟨w.heap.size, 3, none⟩ = some (.string (showD q)) := HB_t.out.2 3
      obtain ⟨Ev, hEv⟩ : ∃ z, evR d bets x y = z := ⟨_, rfl⟩
      have HQ := Lib.hid hEv
      have HRR : Hid ((!(decide (Ev * q < 1))) = r) := Lib.hid (by rw [← hEv, ← HR.out]; exact HE1.out x y hxy)
      have HFE : Hid (Fits Ev ∧ Fits (Ev * q)) := Lib.hid (by rw [← hEv]; exact HEV.out x y (by omega) (by omega))
      clear hEv
      have hc : ((x : Int) + (y : Int) ≤ (n : Int)) := by omega
      refine Grow.wp_region_grow 18 [TP.eq (.int .i64 (x : Int)), TP.eq (.int .i64 (y : Int)), TP.eq (.int .i64 (x : Int)), TP.eq (.int .i64 (y : Int)), TP.eq (.int .i64 ((x : Int) + (y : Int))), TP.eq (.int .i64 (n : Int)), TP.eq (.bool true), TP.eq (.bool true), TP.eq (.agg #[.int .i64 d, .int .i64 (bets : Int), .string (showN q), .string (showD q)]), TP.eq (.int .i64 (x : Int)), TP.eq (.int .i64 (y : Int)), TP.eq (rtV Ev), TP.eq (.pointer (some ⟨w.heap.size, 2, none⟩)), TP.eq (rtV q), TP.eq (.bool r), TP.eq (.bool r), TP.eq (.pointer (some ⟨b_x, x * 9, none⟩)), TP.eq (.pointer (some ⟨b_x, x * 9 + y, none⟩))] [[], [], [], [], [2, 3], [], [4, 5], [6], [7], [7], [7], [7, 8, 9, 10], [7], [7, 12], [7, 11, 13], [7, 14], [0], [16, 1]] (by kernel_rfl) (by kernel_rfl) ⟨?o0e, ?o1e, ?o2e, ?o3e, ?o4e, ?o5e, ?o6e, ?o7e, ?o8e, ?o9e, ?o10e, ?o11e, ?o12e, ?o13e, ?o14e, ?o15e, ?o16e, ?o17e, trivial⟩ ?_
      case o0e =>
       intro w' hb
       show wpList _ _ _ _ _ _
       go_wp2
       exact ⟨rfl, Below.refl _ _, rfl⟩
      case o1e =>
       intro w' hb
       show wpList _ _ _ _ _ _
       go_wp2
       exact ⟨rfl, Below.refl _ _, rfl⟩
      case o2e =>
       intro w' hb
       show wpList _ _ _ _ _ _
       go_wp2
       exact ⟨rfl, Below.refl _ _, rfl⟩
      case o3e =>
       intro w' hb
       show wpList _ _ _ _ _ _
       go_wp2
       exact ⟨rfl, Below.refl _ _, rfl⟩
      case o4e =>
       intro w' hb v1 hv1 v2 hv2
       obtain rfl : v1 = _ := hv1
       obtain rfl : v2 = _ := hv2
       show wpList _ _ _ _ _ _
       simp only [Grow.dstOf, zz1, zz2, zz3, zz4, Act.put, zz5, zz6, zz7]
       go_wp2
       exact ⟨rfl, Below.refl _ _, rfl⟩
      case o5e =>
       intro w' hb
       show wpList _ _ _ _ _ _
       go_wp2
       exact ⟨rfl, Below.refl _ _, rfl⟩
      case o6e =>
       intro w' hb v1 hv1 v2 hv2
       obtain rfl : v1 = _ := hv1
       obtain rfl : v2 = _ := hv2
       show wpList _ _ _ _ _ _
       simp only [Grow.dstOf, zz1, zz2, zz3, zz4, Act.put, zz5, zz6, zz7]
       go_wp2
       exact ⟨rfl, Below.refl _ _, rfl⟩
      case o7e =>
       intro w' hb v1 hv1
       obtain rfl : v1 = _ := hv1
       show wpList _ _ _ _ _ _
       simp only [Grow.dstOf, zz1, zz2, zz3, zz4, Act.put, zz5, zz6, zz7]
       go_wp2
       exact ⟨rfl, Below.refl _ _, rfl⟩
      case o8e =>
       intro w' hb v1 hv1
       obtain rfl : v1 = _ := hv1
       have c_t_0' := zzc hb c_t_0
       have c_t_1' := zzc hb c_t_1
       have c_t_2' := zzc hb c_t_2
       have c_t_3' := zzc hb c_t_3
       show wpList _ _ _ _ _ _
       simp only [Grow.dstOf, zz1, zz2, zz3, zz4, Act.put, zz5, zz6, zz7]
       go_wp2
       exact ⟨rfl, Below.refl _ _, rfl⟩
      case o9e =>
       intro w' hb v1 hv1
       obtain rfl : v1 = _ := hv1
       show wpList _ _ _ _ _ _
       simp only [Grow.dstOf, zz1, zz2, zz3, zz4, Act.put, zz5, zz6, zz7]
       go_wp2
       exact ⟨rfl, Below.refl _ _, rfl⟩
      case o10e =>
       intro w' hb v1 hv1
       obtain rfl : v1 = _ := hv1
       show wpList _ _ _ _ _ _
       simp only [Grow.dstOf, zz1, zz2, zz3, zz4, Act.put, zz5, zz6, zz7]
       go_wp2
       exact ⟨rfl, Below.refl _ _, rfl⟩
      case o11e =>
       intro w' hb v1 hv1 v2 hv2 v3 hv3 v4 hv4
       obtain rfl : v1 = _ := hv1
       obtain rfl : v2 = _ := hv2
       obtain rfl : v3 = _ := hv3
       obtain rfl : v4 = _ := hv4
       show wpList _ _ _ _ _ _
       simp only [Grow.dstOf, zz1, zz2, zz3, zz4, Act.put, zz5, zz6, zz7]
       go_wp2_with fail
       refine ((by have h := refEvid_is d _ _ _ bets x y rfl rfl rfl d1 d3 (showN q) (showD q) h1 h5 (by omega) (by omega) w' (HT0.out.ext (ext_trans HW.out hb)); rw [HQ.out] at h; exact h : Calls _ _ _ w' (RtP w' Ev))).mono ?_
       rintro e wz ⟨rfl, hbz⟩
       go_wp2
       exact ⟨rfl, hbz, rfl⟩
      case o12e =>
       intro w' hb v1 hv1
       obtain rfl : v1 = _ := hv1
       show wpList _ _ _ _ _ _
       simp only [Grow.dstOf, zz1, zz2, zz3, zz4, Act.put, zz5, zz6, zz7]
       go_wp2
       exact ⟨rfl, Below.refl _ _, rfl⟩
      case o13e =>
       intro w' hb v1 hv1 v2 hv2
       obtain rfl : v1 = _ := hv1
       obtain rfl : v2 = _ := hv2
       have c_t_2' := zzc hb c_t_2
       have c_t_3' := zzc hb c_t_3
       show wpList _ _ _ _ _ _
       simp only [Grow.dstOf, zz1, zz2, zz3, zz4, Act.put, zz5, zz6, zz7]
       go_wp2
       exact ⟨rfl, Below.refl _ _, rfl⟩
      case o14e =>
       intro w' hb v1 hv1 v2 hv2 v3 hv3
       obtain rfl : v1 = _ := hv1
       obtain rfl : v2 = _ := hv2
       obtain rfl : v3 = _ := hv3
       show wpList _ _ _ _ _ _
       simp only [Grow.dstOf, zz1, zz2, zz3, zz4, Act.put, zz5, zz6, zz7]
       go_wp2_with fail
       refine (enough_is Ev q r HRR.out HFE.out.1 HFQ.out HFE.out.2 w' (HT0.out.ext (ext_trans HW.out hb))).mono ?_
       rintro e wz ⟨rfl, hbz⟩
       go_wp2
       exact ⟨rfl, hbz, rfl⟩
      case o15e =>
       intro w' hb v1 hv1 v2 hv2
       obtain rfl : v1 = _ := hv1
       obtain rfl : v2 = _ := hv2
       show wpList _ _ _ _ _ _
       simp only [Grow.dstOf, zz1, zz2, zz3, zz4, Act.put, zz5, zz6, zz7]
       go_wp2
       exact ⟨rfl, Below.refl _ _, rfl⟩
      case o16e =>
       intro w' hb v1 hv1
       obtain rfl : v1 = _ := hv1
       show wpList _ _ _ _ _ _
       simp only [Grow.dstOf, zz1, zz3, zz4, Act.put, zz5, zz6, zz7]
       go_wp2
       exact ⟨rfl, Below.refl _ _, rfl⟩
      case o17e =>
       intro w' hb v1 hv1 v2 hv2
       obtain rfl : v1 = _ := hv1
       obtain rfl : v2 = _ := hv2
       show wpList _ _ _ _ _ _
       simp only [Grow.dstOf, zz1, zz2, zz3, zz4, Act.put, zz5, zz6, zz7]
       go_wp2
       exact ⟨rfl, Below.refl _ _, rfl⟩
      intro w6' hbz u0 hu0 u1 hu1 u2 hu2 u3 hu3 u4 hu4 u5 hu5 u6 hu6 u7 hu7 u8 hu8 u9 hu9 u10 hu10 u11 hu11 u12 hu12 u13 hu13 u14 hu14 u15 hu15 u16 hu16 u17 hu17
      obtain rfl : u15 = _ := hu15
      obtain rfl : u17 = _ := hu17
      clear hu0 hu1 hu2 hu3 hu4 hu5 hu6 hu7 hu8 hu9 hu10 hu11 hu12 hu13 hu14 hu16
      replace HB_t := Lib.hid (HB_t.out.ext hbz)
      replace HB_u := Lib.hid (HB_u.out.ext hbz)
      replace HB_v := Lib.hid (HB_v.out.ext hbz)
      replace HB_e := Lib.hid (HB_e.out.ext hbz)
      replace HF_o := Lib.hid (HF_o.out.ext HB_o.out hbz)
      replace HB_o := Lib.hid (HB_o.out.ext hbz)
      replace H_m := Lib.hid (H_m.out.ext hbz)
      replace H_x := Lib.hid (H_x.out.ext hbz)
      replace HW := Lib.hid (ext_trans HW.out hbz)
      clear c_t_0 c_t_1 c_t_2 c_t_3
      clear hbz
      show wpList _ _ _ _ _ _
      simp only [Act.put, zz5, zz6, zz7]
      obtain ⟨s9, r0, f0⟩ := H_x.out.slot hx9 hy9
      go_upto_region 11 with (fail)
      obtain ⟨w7', hX⟩ : ∃ X, X = (w6'.setCell ⟨b_x, x * 9 + y, none⟩ (.bool r)) := ⟨_, rfl⟩
      rw [← hX]
      have nB_t : Hid (Box w7' w.heap.size #[.int .i64 d, .int .i64 (bets : Int), .string (showN q), .string (showD q)]) := by rw [hX]; exact Lib.hid (boxn_other (HB_t.out) (show w.heap.size ≠ b_x by omega) (x * 9 + y) (.bool r))
      have nB_u : Hid (Box w7' (w.heap.size + 1) #[.string (showN (u)), .string (showD (u))]) := by rw [hX]; exact Lib.hid (boxn_other (HB_u.out) (show (w.heap.size + 1) ≠ b_x by omega) (x * 9 + y) (.bool r))
      have nB_v : Hid (Box w7' (w.heap.size + 2) #[.string (showN (v)), .string (showD (v))]) := by rw [hX]; exact Lib.hid (boxn_other (HB_v.out) (show (w.heap.size + 2) ≠ b_x by omega) (x * 9 + y) (.bool r))
      have nB_e : Hid (Box w7' (w.heap.size + 3) #[.string (showN (e)), .string (showD (e))]) := by rw [hX]; exact Lib.hid (boxn_other (HB_e.out) (show (w.heap.size + 3) ≠ b_x by omega) (x * 9 + y) (.bool r))
      have nB_o : Hid (Box w7' (w.heap.size + 4) #[.string ⟨#[]⟩, .string ⟨#[]⟩]) := by rw [hX]; exact Lib.hid (boxn_other (HB_o.out) (show (w.heap.size + 4) ≠ b_x by omega) (x * 9 + y) (.bool r))
      have nF_o : Hid (Fre w7' (w.heap.size + 4)) := by rw [hX]; exact Lib.hid (fun j => by simp only [World.frozen?_setCell]; exact HF_o.out j)
      have n_H_m : Hid (GB w7' b_m (KP n x (y + 1)) (fun _ => 0)) := by rw [hX]; exact Lib.hid ((H_m.out).other (p := ⟨b_x, x * 9 + y, none⟩) (show b_m ≠ b_x by omega) (.bool r))
      have n_H_x : Hid (EB w7' b_x (KP n x (y + 1)) E) := by rw [hX]; exact Lib.hid (H_x.out.set hx9 hy9 _ kp_set HR.out)
      have nW : Hid (Below w.heap.size w w7') := by rw [hX]; exact Lib.hid ((HW.out).setCell (p := ⟨b_x, x * 9 + y, none⟩) (show w.heap.size ≤ b_x by omega) (.bool r))
      clear r0 f0
      clear hX HB_t HB_u HB_v HB_e HB_o HF_o HW H_m H_x
      have HB_t := nB_t; clear nB_t
      have HB_u := nB_u; clear nB_u
      have HB_v := nB_v; clear nB_v
      have HB_e := nB_e; clear nB_e
      have HB_o := nB_o; clear nB_o; have HF_o := nF_o; clear nF_o
      have H_m := n_H_m; clear n_H_m
      have H_x := n_H_x; clear n_H_x
      have HW := nW; clear nW
      go_wp2
      go_roundw
      case rel => exact ⟨y + 1, by omega, by go_num, HB_t.out, HB_u.out, HB_v.out, HB_e.out, HB_o.out, HF_o.out, H_m.out, H_x.out, HW.out⟩
      case measure => simp [intOf]; omega
     ·have c_t_0 : w5'.cell? ⟨w.heap.size, 0, none⟩ = some (.int .i64 d) := HB_t.out.2 0
      have c_t_1 : w5'.cell? ⟨w.heap.size, 1, none⟩ = some (.int .i64 (bets : Int)) := HB_t.out.2 1
      have c_t_2 : w5'.cell? ⟨w.heap.size, 2, none⟩ = some (.string (showN q)) := HB_t.out.2 2
      have c_t_3 : w5'.cell? ⟨w.heap.size, 3, none⟩ = some (.string (showD q)) := HB_t.out.2 3
      obtain rfl : r = false := by rw [← HR.out]; exact HE2.out x y hxy
      have hc : ¬ ((x : Int) + (y : Int) ≤ (n : Int)) := by omega
      refine Grow.wp_region_grow 18 [TP.eq (.int .i64 (x : Int)), TP.eq (.int .i64 (y : Int)), TP.eq (.int .i64 (x : Int)), TP.eq (.int .i64 (y : Int)), TP.eq (.int .i64 ((x : Int) + (y : Int))), TP.eq (.int .i64 (n : Int)), TP.eq (.bool false), TP.eq (.bool false), TP.eq undef, TP.eq undef, TP.eq undef, TP.eq undef, TP.eq undef, TP.eq undef, TP.eq undef, TP.eq (.bool false), TP.eq (.pointer (some ⟨b_x, x * 9, none⟩)), TP.eq (.pointer (some ⟨b_x, x * 9 + y, none⟩))] [[], [], [], [], [2, 3], [], [4, 5], [6], [7], [7], [7], [7, 8, 9, 10], [7], [7, 12], [7, 11, 13], [7, 14], [0], [16, 1]] (by kernel_rfl) (by kernel_rfl) ⟨?o0e, ?o1e, ?o2e, ?o3e, ?o4e, ?o5e, ?o6e, ?o7e, ?o8e, ?o9e, ?o10e, ?o11e, ?o12e, ?o13e, ?o14e, ?o15e, ?o16e, ?o17e, trivial⟩ ?_
      case o0e =>
       intro w' hb
       show wpList _ _ _ _ _ _
       go_wp2
       exact ⟨rfl, Below.refl _ _, rfl⟩
      case o1e =>
       intro w' hb
       show wpList _ _ _ _ _ _
       go_wp2
       exact ⟨rfl, Below.refl _ _, rfl⟩
      case o2e =>
       intro w' hb
       show wpList _ _ _ _ _ _
       go_wp2
       exact ⟨rfl, Below.refl _ _, rfl⟩
      case o3e =>
       intro w' hb
       show wpList _ _ _ _ _ _
       go_wp2
       exact ⟨rfl, Below.refl _ _, rfl⟩
      case o4e =>
       intro w' hb v1 hv1 v2 hv2
       obtain rfl : v1 = _ := hv1
       obtain rfl : v2 = _ := hv2
       show wpList _ _ _ _ _ _
       simp only [Grow.dstOf, zz1, zz2, zz3, zz4, Act.put, zz5, zz6, zz7]
       go_wp2
       exact ⟨rfl, Below.refl _ _, rfl⟩
      case o5e =>
       intro w' hb
       show wpList _ _ _ _ _ _
       go_wp2
       exact ⟨rfl, Below.refl _ _, rfl⟩
      case o6e =>
       intro w' hb v1 hv1 v2 hv2
       obtain rfl : v1 = _ := hv1
       obtain rfl : v2 = _ := hv2
       show wpList _ _ _ _ _ _
       simp only [Grow.dstOf, zz1, zz2, zz3, zz4, Act.put, zz5, zz6, zz7]
       go_wp2
       exact ⟨rfl, Below.refl _ _, rfl⟩
      case o7e =>
       intro w' hb v1 hv1
       obtain rfl : v1 = _ := hv1
       show wpList _ _ _ _ _ _
       simp only [Grow.dstOf, zz1, zz2, zz3, zz4, Act.put, zz5, zz6, zz7]
       go_wp2
       exact ⟨rfl, Below.refl _ _, rfl⟩
      case o8e =>
       intro w' hb v1 hv1
       obtain rfl : v1 = _ := hv1
       show wpList _ _ _ _ _ _
       simp only [Grow.dstOf, zz1, zz2, zz3, zz4, Act.put, zz5, zz6, zz7]
       go_wp2
       exact ⟨rfl, Below.refl _ _, rfl⟩
      case o9e =>
       intro w' hb v1 hv1
       obtain rfl : v1 = _ := hv1
       show wpList _ _ _ _ _ _
       simp only [Grow.dstOf, zz1, zz2, zz3, zz4, Act.put, zz5, zz6, zz7]
       go_wp2
       exact ⟨rfl, Below.refl _ _, rfl⟩
      case o10e =>
       intro w' hb v1 hv1
       obtain rfl : v1 = _ := hv1
       show wpList _ _ _ _ _ _
       simp only [Grow.dstOf, zz1, zz2, zz3, zz4, Act.put, zz5, zz6, zz7]
       go_wp2
       exact ⟨rfl, Below.refl _ _, rfl⟩
      case o11e =>
       intro w' hb v1 hv1 v2 hv2 v3 hv3 v4 hv4
       obtain rfl : v1 = _ := hv1
       obtain rfl : v2 = _ := hv2
       obtain rfl : v3 = _ := hv3
       obtain rfl : v4 = _ := hv4
       show wpList _ _ _ _ _ _
       simp only [Grow.dstOf, zz1, zz2, zz3, zz4, Act.put, zz5, zz6, zz7]
       go_wp2
       exact ⟨rfl, Below.refl _ _, rfl⟩
      case o12e =>
       intro w' hb v1 hv1
       obtain rfl : v1 = _ := hv1
       show wpList _ _ _ _ _ _
       simp only [Grow.dstOf, zz1, zz2, zz3, zz4, Act.put, zz5, zz6, zz7]
       go_wp2
       exact ⟨rfl, Below.refl _ _, rfl⟩
      case o13e =>
       intro w' hb v1 hv1 v2 hv2
       obtain rfl : v1 = _ := hv1
       obtain rfl : v2 = _ := hv2
       show wpList _ _ _ _ _ _
       simp only [Grow.dstOf, zz1, zz2, zz3, zz4, Act.put, zz5, zz6, zz7]
       go_wp2
       exact ⟨rfl, Below.refl _ _, rfl⟩
      case o14e =>
       intro w' hb v1 hv1 v2 hv2 v3 hv3
       obtain rfl : v1 = _ := hv1
       obtain rfl : v2 = _ := hv2
       obtain rfl : v3 = _ := hv3
       show wpList _ _ _ _ _ _
       simp only [Grow.dstOf, zz1, zz2, zz3, zz4, Act.put, zz5, zz6, zz7]
       go_wp2
       exact ⟨rfl, Below.refl _ _, rfl⟩
      case o15e =>
       intro w' hb v1 hv1 v2 hv2
       obtain rfl : v1 = _ := hv1
       obtain rfl : v2 = _ := hv2
       show wpList _ _ _ _ _ _
       simp only [Grow.dstOf, zz1, zz2, zz3, zz4, Act.put, zz5, zz6, zz7]
       go_wp2
       exact ⟨rfl, Below.refl _ _, rfl⟩
      case o16e =>
       intro w' hb v1 hv1
       obtain rfl : v1 = _ := hv1
       show wpList _ _ _ _ _ _
       simp only [Grow.dstOf, zz1, zz3, zz4, Act.put, zz5, zz6, zz7]
       go_wp2
       exact ⟨rfl, Below.refl _ _, rfl⟩
      case o17e =>
       intro w' hb v1 hv1 v2 hv2
       obtain rfl : v1 = _ := hv1
       obtain rfl : v2 = _ := hv2
       show wpList _ _ _ _ _ _
       simp only [Grow.dstOf, zz1, zz2, zz3, zz4, Act.put, zz5, zz6, zz7]
       go_wp2
       exact ⟨rfl, Below.refl _ _, rfl⟩
      intro w6' hbz u0 hu0 u1 hu1 u2 hu2 u3 hu3 u4 hu4 u5 hu5 u6 hu6 u7 hu7 u8 hu8 u9 hu9 u10 hu10 u11 hu11 u12 hu12 u13 hu13 u14 hu14 u15 hu15 u16 hu16 u17 hu17
      obtain rfl : u15 = _ := hu15
      obtain rfl : u17 = _ := hu17
      clear hu0 hu1 hu2 hu3 hu4 hu5 hu6 hu7 hu8 hu9 hu10 hu11 hu12 hu13 hu14 hu16
      replace HB_t := Lib.hid (HB_t.out.ext hbz)
      replace HB_u := Lib.hid (HB_u.out.ext hbz)
      replace HB_v := Lib.hid (HB_v.out.ext hbz)
      replace HB_e := Lib.hid (HB_e.out.ext hbz)
      replace HF_o := Lib.hid (HF_o.out.ext HB_o.out hbz)
      replace HB_o := Lib.hid (HB_o.out.ext hbz)
      replace H_m := Lib.hid (H_m.out.ext hbz)
      replace H_x := Lib.hid (H_x.out.ext hbz)
      replace HW := Lib.hid (ext_trans HW.out hbz)
      clear c_t_0 c_t_1 c_t_2 c_t_3
      clear hbz
      show wpList _ _ _ _ _ _
      simp only [Act.put, zz5, zz6, zz7]
      obtain ⟨s9, r0, f0⟩ := H_x.out.slot hx9 hy9
      go_upto_region 11 with (fail)
      obtain ⟨w7', hX⟩ : ∃ X, X = (w6'.setCell ⟨b_x, x * 9 + y, none⟩ (.bool false)) := ⟨_, rfl⟩
      rw [← hX]
      have nB_t : Hid (Box w7' w.heap.size #[.int .i64 d, .int .i64 (bets : Int), .string (showN q), .string (showD q)]) := by rw [hX]; exact Lib.hid (boxn_other (HB_t.out) (show w.heap.size ≠ b_x by omega) (x * 9 + y) (.bool false))
      have nB_u : Hid (Box w7' (w.heap.size + 1) #[.string (showN (u)), .string (showD (u))]) := by rw [hX]; exact Lib.hid (boxn_other (HB_u.out) (show (w.heap.size + 1) ≠ b_x by omega) (x * 9 + y) (.bool false))
      have nB_v : Hid (Box w7' (w.heap.size + 2) #[.string (showN (v)), .string (showD (v))]) := by rw [hX]; exact Lib.hid (boxn_other (HB_v.out) (show (w.heap.size + 2) ≠ b_x by omega) (x * 9 + y) (.bool false))
      have nB_e : Hid (Box w7' (w.heap.size + 3) #[.string (showN (e)), .string (showD (e))]) := by rw [hX]; exact Lib.hid (boxn_other (HB_e.out) (show (w.heap.size + 3) ≠ b_x by omega) (x * 9 + y) (.bool false))
      have nB_o : Hid (Box w7' (w.heap.size + 4) #[.string ⟨#[]⟩, .string ⟨#[]⟩]) := by rw [hX]; exact Lib.hid (boxn_other (HB_o.out) (show (w.heap.size + 4) ≠ b_x by omega) (x * 9 + y) (.bool false))
      have nF_o : Hid (Fre w7' (w.heap.size + 4)) := by rw [hX]; exact Lib.hid (fun j => by simp only [World.frozen?_setCell]; exact HF_o.out j)
      have n_H_m : Hid (GB w7' b_m (KP n x (y + 1)) (fun _ => 0)) := by rw [hX]; exact Lib.hid ((H_m.out).other (p := ⟨b_x, x * 9 + y, none⟩) (show b_m ≠ b_x by omega) (.bool false))
      have n_H_x : Hid (EB w7' b_x (KP n x (y + 1)) E) := by rw [hX]; exact Lib.hid (H_x.out.set hx9 hy9 _ kp_set HR.out)
      have nW : Hid (Below w.heap.size w w7') := by rw [hX]; exact Lib.hid ((HW.out).setCell (p := ⟨b_x, x * 9 + y, none⟩) (show w.heap.size ≤ b_x by omega) (.bool false))
      clear r0 f0
      clear hX HB_t HB_u HB_v HB_e HB_o HF_o HW H_m H_x
      have HB_t := nB_t; clear nB_t
      have HB_u := nB_u; clear nB_u
      have HB_v := nB_v; clear nB_v
      have HB_e := nB_e; clear nB_e
      have HB_o := nB_o; clear nB_o; have HF_o := nF_o; clear nF_o
      have H_m := n_H_m; clear n_H_m
      have H_x := n_H_x; clear n_H_x
      have HW := nW; clear nW
      go_wp2
      go_roundw
      case rel => exact ⟨y + 1, by omega, by go_num, HB_t.out, HB_u.out, HB_v.out, HB_e.out, HB_o.out, HF_o.out, H_m.out, H_x.out, HW.out⟩
      case measure => simp [intOf]; omega
    ·have hyn : y = n + 1 := by omega
     subst hyn
     replace H_m : Hid (GB X2 b_m (KP n (x + 1) 0) (fun _ => 0)) := Lib.hid (H_m.out.turn fun u v a b h => ⟨kp_row u v a b h, rfl⟩)
     replace H_x : Hid (EB X2 b_x (KP n (x + 1) 0) E) := Lib.hid (H_x.out.turn kp_row)
     have hy2 : ¬ ((n : Int) + 1 < (n : Int) + 1) := by omega
     go_wp2
     go_roundw
     case rel => exact ⟨x + 1, by omega, by go_num, HB_t.out, HB_u.out, HB_v.out, HB_e.out, HB_o.out, HF_o.out, H_m.out, H_x.out, HW.out⟩
     case measure => simp [intOf]; omega
  ·have hxn : x = n + 1 := by omega
   subst hxn
   replace H_m : Hid (GB X1 b_m (KA n) (fun _ => 0)) := Lib.hid (H_m.out.turn fun u v a b h => ⟨kp_all u v a b h, rfl⟩)
   replace H_x : Hid (EB X1 b_x (KA n) E) := Lib.hid (H_x.out.turn kp_all)
   have hx2 : ¬ ((n : Int) + 1 < (n : Int) + 1) := by omega
   obtain ⟨oq, hoq⟩ : ∃ z : Rat, (1 : Rat) = z := ⟨_, rfl⟩
   have HOQ := Lib.hid hoq
   clear hoq
   obtain ⟨zq, hzq⟩ : ∃ z : Rat, (0 : Rat) = z := ⟨_, rfl⟩
   have HZQ := Lib.hid hzq
   clear hzq
   go_wp2_with fail
   refine ((by have h := whole1 X1 (HT0.out.ext HW.out); rw [HOQ.out] at h; exact h : Calls _ _ _ X1 (RtP X1 oq))).mono ?_
   rintro e w4' ⟨rfl, hbz⟩
   replace HB_t := Lib.hid (HB_t.out.ext hbz)
   replace HB_u := Lib.hid (HB_u.out.ext hbz)
   replace HB_v := Lib.hid (HB_v.out.ext hbz)
   replace HB_e := Lib.hid (HB_e.out.ext hbz)
   replace HF_o := Lib.hid (HF_o.out.ext HB_o.out hbz)
   replace HB_o := Lib.hid (HB_o.out.ext hbz)
   replace H_m := Lib.hid (H_m.out.ext hbz)
   replace H_x := Lib.hid (H_x.out.ext hbz)
   replace HW := Lib.hid (ext_trans HW.out hbz)
   clear hbz
   obtain ⟨s9, t9, r0', r1', f0', f1'⟩ := H_m.out.slot (x := 0) (y := 0) (by omega) (by omega)
   have r0 : w4'.cell? ⟨b_m, 0, none⟩ = some (.string s9) := r0'
   have r1 : w4'.cell? ⟨b_m, 1, none⟩ = some (.string t9) := r1'
   have f0 : w4'.frozen? ⟨b_m, 0, none⟩ = false := f0'
   have f1 : w4'.frozen? ⟨b_m, 1, none⟩ = false := f1'
   clear r0' r1' f0' f1'
   go_upto_region 14 with (fail)
   obtain ⟨w5', hX⟩ : ∃ X, X = ((w4'.setCell ⟨b_m, 0, none⟩ (.string (showN oq))).setCell ⟨b_m, 1, none⟩ (.string (showD oq))) := ⟨_, rfl⟩
   rw [← hX]
   have nB_t : Hid (Box w5' w.heap.size #[.int .i64 d, .int .i64 (bets : Int), .string (showN q), .string (showD q)]) := by rw [hX]; exact Lib.hid (boxn_other (boxn_other (HB_t.out) (show w.heap.size ≠ b_m by omega) (0) (.string (showN oq))) (show w.heap.size ≠ b_m by omega) (1) (.string (showD oq)))
   have nB_u : Hid (Box w5' (w.heap.size + 1) #[.string (showN (u)), .string (showD (u))]) := by rw [hX]; exact Lib.hid (boxn_other (boxn_other (HB_u.out) (show (w.heap.size + 1) ≠ b_m by omega) (0) (.string (showN oq))) (show (w.heap.size + 1) ≠ b_m by omega) (1) (.string (showD oq)))
   have nB_v : Hid (Box w5' (w.heap.size + 2) #[.string (showN (v)), .string (showD (v))]) := by rw [hX]; exact Lib.hid (boxn_other (boxn_other (HB_v.out) (show (w.heap.size + 2) ≠ b_m by omega) (0) (.string (showN oq))) (show (w.heap.size + 2) ≠ b_m by omega) (1) (.string (showD oq)))
   have nB_e : Hid (Box w5' (w.heap.size + 3) #[.string (showN (e)), .string (showD (e))]) := by rw [hX]; exact Lib.hid (boxn_other (boxn_other (HB_e.out) (show (w.heap.size + 3) ≠ b_m by omega) (0) (.string (showN oq))) (show (w.heap.size + 3) ≠ b_m by omega) (1) (.string (showD oq)))
   have nB_o : Hid (Box w5' (w.heap.size + 4) #[.string ⟨#[]⟩, .string ⟨#[]⟩]) := by rw [hX]; exact Lib.hid (boxn_other (boxn_other (HB_o.out) (show (w.heap.size + 4) ≠ b_m by omega) (0) (.string (showN oq))) (show (w.heap.size + 4) ≠ b_m by omega) (1) (.string (showD oq)))
   have nF_o : Hid (Fre w5' (w.heap.size + 4)) := by rw [hX]; exact Lib.hid (fun j => by simp only [World.frozen?_setCell]; exact HF_o.out j)
   have n_H_m : Hid (GB w5' b_m (KA n) (C 0)) := by rw [hX]; exact Lib.hid (H_m.out.set (x := 0) (y := 0) (by omega) (by omega) oq (fun u v _ _ h => Or.inr h) (fun u v _ _ _ => by rw [HC1.out, ← HOQ.out]; simp only [Prod.mk.injEq]))
   have n_H_x : Hid (EB w5' b_x (KA n) E) := by rw [hX]; exact Lib.hid (((H_x.out).other (p := ⟨b_m, 0, none⟩) (show b_x ≠ b_m by omega) (.string (showN oq))).other (p := ⟨b_m, 1, none⟩) (show b_x ≠ b_m by omega) (.string (showD oq)))
   have nW : Hid (Below w.heap.size w w5') := by rw [hX]; exact Lib.hid (((HW.out).setCell (p := ⟨b_m, 0, none⟩) (show w.heap.size ≤ b_m by omega) (.string (showN oq))).setCell (p := ⟨b_m, 1, none⟩) (show w.heap.size ≤ b_m by omega) (.string (showD oq)))
   clear r0 r1 f0 f1
   clear hX HB_t HB_u HB_v HB_e HB_o HF_o HW H_m H_x
   have HB_t := nB_t; clear nB_t
   have HB_u := nB_u; clear nB_u
   have HB_v := nB_v; clear nB_v
   have HB_e := nB_e; clear nB_e
   have HB_o := nB_o; clear nB_o; have HF_o := nF_o; clear nF_o
   have H_m := n_H_m; clear n_H_m
   have H_x := n_H_x; clear n_H_x
   have HW := nW; clear nW
   go_wp2_with fail
   refine ((by have h := whole0 w5' (HT0.out.ext HW.out); rw [HZQ.out] at h; exact h : Calls _ _ _ w5' (RtP w5' zq))).mono ?_
   rintro e w6' ⟨rfl, hbz⟩
   replace HB_t := Lib.hid (HB_t.out.ext hbz)
   replace HB_u := Lib.hid (HB_u.out.ext hbz)
   replace HB_v := Lib.hid (HB_v.out.ext hbz)
   replace HB_e := Lib.hid (HB_e.out.ext hbz)
   replace HF_o := Lib.hid (HF_o.out.ext HB_o.out hbz)
   replace HB_o := Lib.hid (HB_o.out.ext hbz)
   replace H_m := Lib.hid (H_m.out.ext hbz)
   replace H_x := Lib.hid (H_x.out.ext hbz)
   replace HW := Lib.hid (ext_trans HW.out hbz)
   clear hbz
   have lt_H_m_s : b_m < w6'.heap.size := H_m.out.lt
   have lt_H_x_s : b_x < w6'.heap.size := H_x.out.lt
   go_upto_region 15 with (fail)
   refine wp_box1r fun w7' hsz hbz hC hF => ?_
   clear hsz
   have lt_t_s : w.heap.size < w6'.heap.size := HB_t.out.1
   have lt_u_s : (w.heap.size + 1) < w6'.heap.size := HB_u.out.1
   have lt_v_s : (w.heap.size + 2) < w6'.heap.size := HB_v.out.1
   have lt_e_s : (w.heap.size + 3) < w6'.heap.size := HB_e.out.1
   have lt_o_s : (w.heap.size + 4) < w6'.heap.size := HB_o.out.1
   have le_s : w.heap.size ≤ w6'.heap.size := HW.out.size
   replace HB_t := Lib.hid (HB_t.out.ext hbz)
   replace HB_u := Lib.hid (HB_u.out.ext hbz)
   replace HB_v := Lib.hid (HB_v.out.ext hbz)
   replace HB_e := Lib.hid (HB_e.out.ext hbz)
   replace HF_o := Lib.hid (HF_o.out.ext HB_o.out hbz)
   replace HB_o := Lib.hid (HB_o.out.ext hbz)
   replace H_m := Lib.hid (H_m.out.ext hbz)
   replace H_x := Lib.hid (H_x.out.ext hbz)
   replace HW := Lib.hid (ext_trans HW.out hbz)
   clear hbz
   have HB_s := Lib.hid hC
   have HF_s := Lib.hid hF
   clear hC hF
   generalize w6'.heap.size = b_s at *
   have HSZ : Hid (zq = S 0) := Lib.hid (by rw [HS1.out, HZQ.out])
   clear hx2
   go_wp2
   go_loopw [60] (fun i wr => ∃ (k : Nat) (sq : Rat), k ≤ n ∧ i = .int .i64 (k : Int) ∧ Hid (sq = S k) ∧ (Box wr w.heap.size #[.int .i64 d, .int .i64 (bets : Int), .string (showN q), .string (showD q)]) ∧ (Box wr (w.heap.size + 1) #[.string (showN (u)), .string (showD (u))]) ∧ (Box wr (w.heap.size + 2) #[.string (showN (v)), .string (showD (v))]) ∧ (Box wr (w.heap.size + 3) #[.string (showN (e)), .string (showD (e))]) ∧ (Box wr (w.heap.size + 4) #[.string ⟨#[]⟩, .string ⟨#[]⟩]) ∧ (Fre wr (w.heap.size + 4)) ∧ (Box wr b_s #[.string (showN (sq)), .string (showD (sq))]) ∧ (Fre wr b_s) ∧ (GB wr b_m (KA n) (C k)) ∧ (EB wr b_x (KA n) E) ∧ (Below w.heap.size w wr)) (fun i _ => n - (intOf i).toNat)
   case atStart => exact ⟨0, zq, by omega, rfl, HSZ, HB_t.out, HB_u.out, HB_v.out, HB_e.out, HB_o.out, HF_o.out, HB_s.out, HF_s.out, H_m.out, H_x.out, HW.out⟩
   case round =>
    obtain ⟨k, sq, hk, rfl, HSK, q_HB_t, q_HB_u, q_HB_v, q_HB_e, q_HB_o, q_HF_o, q_HB_s, q_HF_s, q_H_m, q_H_x, q_HW⟩ := hrel
    clear HB_t HB_u HB_v HB_e HB_o HF_o HB_s HF_s H_m H_x HW
    clear HSZ
    have HB_t := Lib.hid q_HB_t
    have HB_u := Lib.hid q_HB_u
    have HB_v := Lib.hid q_HB_v
    have HB_e := Lib.hid q_HB_e
    have HB_o := Lib.hid q_HB_o
    have HF_o := Lib.hid q_HF_o
    have HB_s := Lib.hid q_HB_s
    have HF_s := Lib.hid q_HF_s
    have H_m := Lib.hid q_H_m
    have H_x := Lib.hid q_H_x
    have HW := Lib.hid q_HW
    clear q_HB_t q_HB_u q_HB_v q_HB_e q_HB_o q_HF_o q_HB_s q_HF_s q_H_m q_H_x q_HW
    generalize hX : wr = X3 at *
    clear hX
    by_cases hlk : k < n
    ·have hk2 : (k : Int) < (n : Int) := by omega
     obtain ⟨hR, hN⟩ := HRN2.out k hlk
     obtain ⟨Fk, hFk⟩ : ∃ G, C k = G := ⟨_, rfl⟩
     obtain ⟨Nx, hNx⟩ : ∃ G, nxG E u v e (C k) = G := ⟨_, rfl⟩
     obtain ⟨Gk, hGk⟩ : ∃ G, gv E u v e (C k) = G := ⟨_, rfl⟩
     rw [hNx] at hR hN
     rw [hGk, hFk, ← HSK.out] at hR
     have HR0 := Lib.hid hR
     have HNN : Hid (∀ t : Pt, t.1 ≤ n → t.2 ≤ n → C (k + 1) t = Nx t) := Lib.hid hN
     replace H_m : Hid (GB X3 b_m (KA n) Fk) := Lib.hid (by rw [← hFk]; exact H_m.out)
     clear hR hN hFk hNx hGk
     obtain ⟨A, hA, hrow, _⟩ := H_m.out.read
     have hsz := hA.size
     have HA := Lib.hid hA
     have HRO := Lib.hid (And.intro hrow hsz)
     clear hA hrow hsz
     have hz0 := zeroG
     go_upto_region 18 with (fail)
     refine wp_load_row _ _ rfl b_m rfl _ A _ _ HRO.out.1 und_G rfl (by rw [size_G, HRO.out.2]) ?_
     have hsc := run_storeCells_new (P := Tryz.prog) X3 194 zG A (by rw [size_G, HRO.out.2]) (by rw [HRO.out.2]; exact Array.size_replicate) HA.out.str.one
     have hsz := HRO.out.2
     first | (rename_i K1 k1 K2 k2; refine k2 _ _ ?_) | (rename_i K1 k1; refine k1 _ _ ?_)
     go_upto_region 18 with (fail)
     clear HRO hz0 hsc hsz
     refine wp_grid HA.out fun w8' hbz hG => ?_
     have lt_t_n : w.heap.size < X3.heap.size := HB_t.out.1
     have lt_u_n : (w.heap.size + 1) < X3.heap.size := HB_u.out.1
     have lt_v_n : (w.heap.size + 2) < X3.heap.size := HB_v.out.1
     have lt_e_n : (w.heap.size + 3) < X3.heap.size := HB_e.out.1
     have lt_o_n : (w.heap.size + 4) < X3.heap.size := HB_o.out.1
     have lt_s_n : b_s < X3.heap.size := HB_s.out.1
     have lt_H_m_n : b_m < X3.heap.size := H_m.out.lt
     have lt_H_x_n : b_x < X3.heap.size := H_x.out.lt
     have le_n : w.heap.size ≤ X3.heap.size := HW.out.size
     replace HB_t := Lib.hid (HB_t.out.ext hbz)
     replace HB_u := Lib.hid (HB_u.out.ext hbz)
     replace HB_v := Lib.hid (HB_v.out.ext hbz)
     replace HB_e := Lib.hid (HB_e.out.ext hbz)
     replace HF_o := Lib.hid (HF_o.out.ext HB_o.out hbz)
     replace HB_o := Lib.hid (HB_o.out.ext hbz)
     replace HF_s := Lib.hid (HF_s.out.ext HB_s.out hbz)
     replace HB_s := Lib.hid (HB_s.out.ext hbz)
     replace H_m := Lib.hid (H_m.out.ext hbz)
     replace H_x := Lib.hid (H_x.out.ext hbz)
     replace HW := Lib.hid (ext_trans HW.out hbz)
     clear hbz
     have H_n : Hid (GB w8' X3.heap.size (KA n) Fk) := Lib.hid hG
     clear hG
     generalize X3.heap.size = b_n at *
     clear HA
     have hmx : Hid (GB w8' b_n (KA n) (mixF n 0 0 Nx Fk)) := Lib.hid (H_n.out.turn fun u v _ _ h => ⟨h, mix_start⟩)
     replace H_n := hmx
     clear hmx
     have HG0 : Hid (sq + gridS Gk n 0 = sq) := Lib.hid (by rw [gridS_zero, Rat.add_zero])
     obtain ⟨S0, hS0⟩ : ∃ z, z = sq := ⟨_, rfl⟩
     rw [← hS0] at HR0
     have HSS : Hid (sq = S0 + gridS Gk n 0) := Lib.hid (by rw [hS0]; exact HG0.out.symm)
     clear HG0 hS0 HSK
     go_wp2
     go_loopw [65] (fun i wr => ∃ (x : Nat) (sx : Rat), x ≤ n + 1 ∧ i = .int .i64 (x : Int) ∧ Hid (sx = S0 + gridS Gk n x) ∧ (Box wr w.heap.size #[.int .i64 d, .int .i64 (bets : Int), .string (showN q), .string (showD q)]) ∧ (Box wr (w.heap.size + 1) #[.string (showN (u)), .string (showD (u))]) ∧ (Box wr (w.heap.size + 2) #[.string (showN (v)), .string (showD (v))]) ∧ (Box wr (w.heap.size + 3) #[.string (showN (e)), .string (showD (e))]) ∧ (Box wr (w.heap.size + 4) #[.string ⟨#[]⟩, .string ⟨#[]⟩]) ∧ (Fre wr (w.heap.size + 4)) ∧ (Box wr b_s #[.string (showN (sx)), .string (showD (sx))]) ∧ (Fre wr b_s) ∧ (GB wr b_m (KA n) Fk) ∧ (EB wr b_x (KA n) E) ∧ (GB wr b_n (KA n) (mixF n x 0 Nx Fk)) ∧ (Below w.heap.size w wr)) (fun i _ => n + 1 - (intOf i).toNat)
     case atStart => exact ⟨0, sq, by omega, rfl, HSS, HB_t.out, HB_u.out, HB_v.out, HB_e.out, HB_o.out, HF_o.out, HB_s.out, HF_s.out, H_m.out, H_x.out, H_n.out, HW.out⟩
     case round =>
      obtain ⟨x, sx, hx, rfl, HSX, q_HB_t, q_HB_u, q_HB_v, q_HB_e, q_HB_o, q_HF_o, q_HB_s, q_HF_s, q_H_m, q_H_x, q_H_n, q_HW⟩ := hrel
      clear HB_t HB_u HB_v HB_e HB_o HF_o HB_s HF_s H_m H_x H_n HW
      clear HSS
      have HB_t := Lib.hid q_HB_t
      have HB_u := Lib.hid q_HB_u
      have HB_v := Lib.hid q_HB_v
      have HB_e := Lib.hid q_HB_e
      have HB_o := Lib.hid q_HB_o
      have HF_o := Lib.hid q_HF_o
      have HB_s := Lib.hid q_HB_s
      have HF_s := Lib.hid q_HF_s
      have H_m := Lib.hid q_H_m
      have H_x := Lib.hid q_H_x
      have H_n := Lib.hid q_H_n
      have HW := Lib.hid q_HW
      clear q_HB_t q_HB_u q_HB_v q_HB_e q_HB_o q_HF_o q_HB_s q_HF_s q_H_m q_H_x q_H_n q_HW
      generalize hX : wr = X4 at *
      clear hX
      by_cases hlx : x ≤ n
      ·have hx0 : (0 : Int) ≤ (x : Int) := Int.natCast_nonneg _
       have hx1 : (x : Int) < 9 := by omega
       have hx2 : (x : Int) < (n : Int) + 1 := by omega
       have hx3 : (x : Int).toNat = x := by omega
       have HSXY : Hid (sx = S0 + gridS Gk n x + rowS Gk x 0) := Lib.hid (by rw [rowS_zero, Rat.add_zero]; exact HSX.out)
       go_wp2
       go_loopw [70] (fun i wr => ∃ (y : Nat) (sy : Rat), y ≤ n + 1 ∧ i = .int .i64 (y : Int) ∧ Hid (sy = S0 + gridS Gk n x + rowS Gk x y) ∧ (Box wr w.heap.size #[.int .i64 d, .int .i64 (bets : Int), .string (showN q), .string (showD q)]) ∧ (Box wr (w.heap.size + 1) #[.string (showN (u)), .string (showD (u))]) ∧ (Box wr (w.heap.size + 2) #[.string (showN (v)), .string (showD (v))]) ∧ (Box wr (w.heap.size + 3) #[.string (showN (e)), .string (showD (e))]) ∧ (Box wr (w.heap.size + 4) #[.string ⟨#[]⟩, .string ⟨#[]⟩]) ∧ (Fre wr (w.heap.size + 4)) ∧ (Box wr b_s #[.string (showN (sy)), .string (showD (sy))]) ∧ (Fre wr b_s) ∧ (GB wr b_m (KA n) Fk) ∧ (EB wr b_x (KA n) E) ∧ (GB wr b_n (KA n) (mixF n x y Nx Fk)) ∧ (Below w.heap.size w wr)) (fun i _ => n + 1 - (intOf i).toNat)
       case atStart => exact ⟨0, sx, by omega, rfl, HSXY, HB_t.out, HB_u.out, HB_v.out, HB_e.out, HB_o.out, HF_o.out, HB_s.out, HF_s.out, H_m.out, H_x.out, H_n.out, HW.out⟩
       case round =>
        obtain ⟨y, sy, hy, rfl, HSY, q_HB_t, q_HB_u, q_HB_v, q_HB_e, q_HB_o, q_HF_o, q_HB_s, q_HF_s, q_H_m, q_H_x, q_H_n, q_HW⟩ := hrel
        clear HB_t HB_u HB_v HB_e HB_o HF_o HB_s HF_s H_m H_x H_n HW
        clear HSXY
        have HB_t := Lib.hid q_HB_t
        have HB_u := Lib.hid q_HB_u
        have HB_v := Lib.hid q_HB_v
        have HB_e := Lib.hid q_HB_e
        have HB_o := Lib.hid q_HB_o
        have HF_o := Lib.hid q_HF_o
        have HB_s := Lib.hid q_HB_s
        have HF_s := Lib.hid q_HF_s
        have H_m := Lib.hid q_H_m
        have H_x := Lib.hid q_H_x
        have H_n := Lib.hid q_H_n
        have HW := Lib.hid q_HW
        clear q_HB_t q_HB_u q_HB_v q_HB_e q_HB_o q_HF_o q_HB_s q_HF_s q_H_m q_H_x q_H_n q_HW
        generalize hX : wr = X5 at *
        clear hX
        by_cases hly : y ≤ n
        ·have hy0 : (0 : Int) ≤ (y : Int) := Int.natCast_nonneg _
         have hy1 : (y : Int) < 9 := by omega
         have hy2 : (y : Int) < (n : Int) + 1 := by omega
         have hy3 : (y : Int).toNat = y := by omega
         have hx9 : x < 9 := by omega
         have hy9 : y < 9 := by omega
         obtain ⟨a0, ha0⟩ : ∃ z, Fk (x, y) * e = z := ⟨_, rfl⟩
         obtain ⟨f0q, hf0⟩ : ∃ z, Fk (x, y) = z := ⟨_, rfl⟩
         have HA0 : Hid (Fk (x, y) * e = a0 ∧ f0q * e = a0 ∧ Fits f0q ∧ Fits a0) := Lib.hid ⟨ha0, by rw [← hf0, ha0], by rw [← hf0]; exact HR0.out.f1 _, by rw [← ha0]; exact HR0.out.f2 _⟩
         have hcl := H_m.out.cells hx9 hy9 (show KA n x y from ⟨hlx, hly⟩)
         rw [hf0] at hcl
         obtain ⟨m0, m1⟩ := hcl
         clear ha0 hf0
         have c_e_0 : X5.cell? ⟨(w.heap.size + 3), 0, none⟩ = some (.string (showN (e))) := HB_e.out.2 0
         have c_e_1 : X5.cell? ⟨(w.heap.size + 3), 1, none⟩ = some (.string (showD (e))) := HB_e.out.2 1
         go_upto_region 24 with (fail)
         refine Grow.wp_region_grow 8 [TP.eq (.int .i64 (x : Int)), TP.eq (.int .i64 (y : Int)), TP.eq (.pointer (some ⟨b_m, x * 18, none⟩)), TP.eq (.pointer (some ⟨b_m, x * 18 + y * 2, none⟩)), TP.eq (rtV f0q), TP.eq (rtV e), TP.eq (rtV a0), TP.new X5.heap.size #[.string ⟨#[]⟩, .string ⟨#[]⟩]] [[], [], [0], [2, 1], [3], [], [4, 5], []] (by kernel_rfl) (by kernel_rfl) ⟨?o0t, ?o1t, ?o2t, ?o3t, ?o4t, ?o5t, ?o6t, ?o7t, trivial⟩ ?_
         case o0t =>
          intro w' hb
          show wpList _ _ _ _ _ _
          go_wp2
          exact ⟨rfl, Below.refl _ _, rfl⟩
         case o1t =>
          intro w' hb
          show wpList _ _ _ _ _ _
          go_wp2
          exact ⟨rfl, Below.refl _ _, rfl⟩
         case o2t =>
          intro w' hb v1 hv1
          obtain rfl : v1 = _ := hv1
          show wpList _ _ _ _ _ _
          simp only [Grow.dstOf, zz1, zz3, zz4, Act.put, zz5, zz6, zz7]
          go_wp2
          exact ⟨rfl, Below.refl _ _, rfl⟩
         case o3t =>
          intro w' hb v1 hv1 v2 hv2
          obtain rfl : v1 = _ := hv1
          obtain rfl : v2 = _ := hv2
          show wpList _ _ _ _ _ _
          simp only [Grow.dstOf, zz1, zz2, zz3, zz4, Act.put, zz5, zz6, zz7]
          go_wp2
          exact ⟨rfl, Below.refl _ _, rfl⟩
         case o4t =>
          intro w' hb v1 hv1
          obtain rfl : v1 = _ := hv1
          have m0' := zzc hb m0
          have m1' := zzc hb m1
          show wpList _ _ _ _ _ _
          simp only [Grow.dstOf, zz1, zz2, zz3, zz4, Act.put, zz5, zz6, zz7]
          go_wp2
          exact ⟨rfl, Below.refl _ _, rfl⟩
         case o5t =>
          intro w' hb
          have c_e_0' := zzc hb c_e_0
          have c_e_1' := zzc hb c_e_1
          show wpList _ _ _ _ _ _
          go_wp2
          exact ⟨rfl, Below.refl _ _, rfl⟩
         case o6t =>
          intro w' hb v1 hv1 v2 hv2
          obtain rfl : v1 = _ := hv1
          obtain rfl : v2 = _ := hv2
          show wpList _ _ _ _ _ _
          simp only [Grow.dstOf, zz1, zz2, zz3, zz4, Act.put, zz5, zz6, zz7]
          go_wp2_with fail
          refine (times_is f0q e a0 HA0.out.2.1 HA0.out.2.2.1 hge.out HA0.out.2.2.2 w' (HT0.out.ext (ext_trans HW.out hb))).mono ?_
          rintro e wz ⟨rfl, hbz⟩
          go_wp2
          exact ⟨rfl, hbz, rfl⟩
         case o7t =>
          intro w' hb
          show wpList _ _ _ _ _ _
          go_wp2
          exact ⟨⟨_, rfl, hb.size, Box.new _ _ _, Fre.new _ _ _⟩, ext_alloc _ _, rfl⟩
         intro w9' hbz u0 hu0 u1 hu1 u2 hu2 u3 hu3 u4 hu4 u5 hu5 u6 hu6 u7 hu7
         obtain rfl : u6 = _ := hu6
         have hg7 : ∃ g, u7 = .pointer (some ⟨g, 0, none⟩) ∧ X5.heap.size ≤ g ∧ Box w9' g #[.string ⟨#[]⟩, .string ⟨#[]⟩] ∧ Fre w9' g := hu7
         clear hu0 hu1 hu2 hu3 hu4 hu5 hu7 m0 m1
         obtain ⟨b_a, rfl, hgY, hXg, hFg⟩ := hg7
         have lt_t_a : w.heap.size < b_a := Nat.lt_of_lt_of_le HB_t.out.1 hgY
         have lt_u_a : (w.heap.size + 1) < b_a := Nat.lt_of_lt_of_le HB_u.out.1 hgY
         have lt_v_a : (w.heap.size + 2) < b_a := Nat.lt_of_lt_of_le HB_v.out.1 hgY
         have lt_e_a : (w.heap.size + 3) < b_a := Nat.lt_of_lt_of_le HB_e.out.1 hgY
         have lt_o_a : (w.heap.size + 4) < b_a := Nat.lt_of_lt_of_le HB_o.out.1 hgY
         have lt_s_a : b_s < b_a := Nat.lt_of_lt_of_le HB_s.out.1 hgY
         have lt_H_m_a : b_m < b_a := Nat.lt_of_lt_of_le H_m.out.lt hgY
         have lt_H_x_a : b_x < b_a := Nat.lt_of_lt_of_le H_x.out.lt hgY
         have lt_H_n_a : b_n < b_a := Nat.lt_of_lt_of_le H_n.out.lt hgY
         have le_a : w.heap.size ≤ b_a := Nat.le_trans HW.out.size hgY
         clear hgY
         replace HB_t := Lib.hid (HB_t.out.ext hbz)
         replace HB_u := Lib.hid (HB_u.out.ext hbz)
         replace HB_v := Lib.hid (HB_v.out.ext hbz)
         replace HB_e := Lib.hid (HB_e.out.ext hbz)
         replace HF_o := Lib.hid (HF_o.out.ext HB_o.out hbz)
         replace HB_o := Lib.hid (HB_o.out.ext hbz)
         replace HF_s := Lib.hid (HF_s.out.ext HB_s.out hbz)
         replace HB_s := Lib.hid (HB_s.out.ext hbz)
         replace H_m := Lib.hid (H_m.out.ext hbz)
         replace H_x := Lib.hid (H_x.out.ext hbz)
         replace H_n := Lib.hid (H_n.out.ext hbz)
         replace HW := Lib.hid (ext_trans HW.out hbz)
         clear c_e_0 c_e_1
         clear hbz
         have HB_a := Lib.hid hXg
         have HF_a := Lib.hid hFg
         clear hXg hFg
         show wpList _ _ _ _ _ _
         simp only [Act.put, zz5, zz6, zz7]
         have c_a_0 : w9'.cell? ⟨b_a, 0, none⟩ = some (.string ⟨#[]⟩) := HB_a.out.2 0
         have c_a_1 : w9'.cell? ⟨b_a, 1, none⟩ = some (.string ⟨#[]⟩) := HB_a.out.2 1
         have f_a_0 := HF_a.out 0
         have f_a_1 := HF_a.out 1
         go_upto_region 25 with (fail)
         obtain ⟨w10', hX⟩ : ∃ X, X = ((w9'.setCell ⟨b_a, 0, none⟩ (.string (showN a0))).setCell ⟨b_a, 1, none⟩ (.string (showD a0))) := ⟨_, rfl⟩
         rw [← hX]
         have nB_t : Hid (Box w10' w.heap.size #[.int .i64 d, .int .i64 (bets : Int), .string (showN q), .string (showD q)]) := by rw [hX]; exact Lib.hid (boxn_other (boxn_other (HB_t.out) (show w.heap.size ≠ b_a by omega) (0) (.string (showN a0))) (show w.heap.size ≠ b_a by omega) (1) (.string (showD a0)))
         have nB_u : Hid (Box w10' (w.heap.size + 1) #[.string (showN (u)), .string (showD (u))]) := by rw [hX]; exact Lib.hid (boxn_other (boxn_other (HB_u.out) (show (w.heap.size + 1) ≠ b_a by omega) (0) (.string (showN a0))) (show (w.heap.size + 1) ≠ b_a by omega) (1) (.string (showD a0)))
         have nB_v : Hid (Box w10' (w.heap.size + 2) #[.string (showN (v)), .string (showD (v))]) := by rw [hX]; exact Lib.hid (boxn_other (boxn_other (HB_v.out) (show (w.heap.size + 2) ≠ b_a by omega) (0) (.string (showN a0))) (show (w.heap.size + 2) ≠ b_a by omega) (1) (.string (showD a0)))
         have nB_e : Hid (Box w10' (w.heap.size + 3) #[.string (showN (e)), .string (showD (e))]) := by rw [hX]; exact Lib.hid (boxn_other (boxn_other (HB_e.out) (show (w.heap.size + 3) ≠ b_a by omega) (0) (.string (showN a0))) (show (w.heap.size + 3) ≠ b_a by omega) (1) (.string (showD a0)))
         have nB_o : Hid (Box w10' (w.heap.size + 4) #[.string ⟨#[]⟩, .string ⟨#[]⟩]) := by rw [hX]; exact Lib.hid (boxn_other (boxn_other (HB_o.out) (show (w.heap.size + 4) ≠ b_a by omega) (0) (.string (showN a0))) (show (w.heap.size + 4) ≠ b_a by omega) (1) (.string (showD a0)))
         have nF_o : Hid (Fre w10' (w.heap.size + 4)) := by rw [hX]; exact Lib.hid (fun j => by simp only [World.frozen?_setCell]; exact HF_o.out j)
         have nB_s : Hid (Box w10' b_s #[.string (showN (sy)), .string (showD (sy))]) := by rw [hX]; exact Lib.hid (boxn_other (boxn_other (HB_s.out) (show b_s ≠ b_a by omega) (0) (.string (showN a0))) (show b_s ≠ b_a by omega) (1) (.string (showD a0)))
         have nF_s : Hid (Fre w10' b_s) := by rw [hX]; exact Lib.hid (fun j => by simp only [World.frozen?_setCell]; exact HF_s.out j)
         have nB_a : Hid (Box w10' b_a #[.string (showN a0), .string (showD a0)]) := by rw [hX]; exact Lib.hid (boxn_cell (boxn_cell (HB_a.out) (j := 0) (by simp) (.string (showN a0))) (j := 1) (by simp) (.string (showD a0)))
         have nF_a : Hid (Fre w10' b_a) := by rw [hX]; exact Lib.hid (fun j => by simp only [World.frozen?_setCell]; exact HF_a.out j)
         have n_H_m : Hid (GB w10' b_m (KA n) Fk) := by rw [hX]; exact Lib.hid (((H_m.out).other (p := ⟨b_a, 0, none⟩) (show b_m ≠ b_a by omega) (.string (showN a0))).other (p := ⟨b_a, 1, none⟩) (show b_m ≠ b_a by omega) (.string (showD a0)))
         have n_H_x : Hid (EB w10' b_x (KA n) E) := by rw [hX]; exact Lib.hid (((H_x.out).other (p := ⟨b_a, 0, none⟩) (show b_x ≠ b_a by omega) (.string (showN a0))).other (p := ⟨b_a, 1, none⟩) (show b_x ≠ b_a by omega) (.string (showD a0)))
         have n_H_n : Hid (GB w10' b_n (KA n) (mixF n x y Nx Fk)) := by rw [hX]; exact Lib.hid (((H_n.out).other (p := ⟨b_a, 0, none⟩) (show b_n ≠ b_a by omega) (.string (showN a0))).other (p := ⟨b_a, 1, none⟩) (show b_n ≠ b_a by omega) (.string (showD a0)))
         have nW : Hid (Below w.heap.size w w10') := by rw [hX]; exact Lib.hid (((HW.out).setCell (p := ⟨b_a, 0, none⟩) (show w.heap.size ≤ b_a by omega) (.string (showN a0))).setCell (p := ⟨b_a, 1, none⟩) (show w.heap.size ≤ b_a by omega) (.string (showD a0)))
         clear c_a_0 c_a_1 f_a_0 f_a_1
         clear hX HB_t HB_u HB_v HB_e HB_o HF_o HB_s HF_s HB_a HF_a HW H_m H_x H_n
         have HB_t := nB_t; clear nB_t
         have HB_u := nB_u; clear nB_u
         have HB_v := nB_v; clear nB_v
         have HB_e := nB_e; clear nB_e
         have HB_o := nB_o; clear nB_o; have HF_o := nF_o; clear nF_o
         have HB_s := nB_s; clear nB_s; have HF_s := nF_s; clear nF_s
         have HB_a := nB_a; clear nB_a; have HF_a := nF_a; clear nF_a
         have H_m := n_H_m; clear n_H_m
         have H_x := n_H_x; clear n_H_x
         have H_n := n_H_n; clear n_H_n
         have HW := nW; clear nW
         have Ha0_in : Hid (Fits a0) := Lib.hid HA0.out.2.2.2
         go_upto_if 81 with (fail)
         go_cut [70] (fun s9 wx => ∃ (wv : World) (a1 : Rat), wv = wx ∧ s9 = .int .i64 (y : Int) ∧ Hid (Fk (x, y) * e + (if 0 < x then Fk (x - 1, y) * u else 0) = a1 ∧ Fits a1) ∧ (Box wv w.heap.size #[.int .i64 d, .int .i64 (bets : Int), .string (showN q), .string (showD q)]) ∧ (Box wv (w.heap.size + 1) #[.string (showN (u)), .string (showD (u))]) ∧ (Box wv (w.heap.size + 2) #[.string (showN (v)), .string (showD (v))]) ∧ (Box wv (w.heap.size + 3) #[.string (showN (e)), .string (showD (e))]) ∧ (Box wv (w.heap.size + 4) #[.string ⟨#[]⟩, .string ⟨#[]⟩]) ∧ (Fre wv (w.heap.size + 4)) ∧ (Box wv b_s #[.string (showN (sy)), .string (showD (sy))]) ∧ (Fre wv b_s) ∧ (Box wv b_a #[.string (showN (a1)), .string (showD (a1))]) ∧ (Fre wv b_a) ∧ (GB wv b_m (KA n) Fk) ∧ (EB wv b_x (KA n) E) ∧ (GB wv b_n (KA n) (mixF n x y Nx Fk)) ∧ (Below w.heap.size w wv))
         case first =>
          by_cases hif : 0 < x
          ·obtain ⟨p, hp⟩ : ∃ p, x - 1 = p := ⟨_, rfl⟩
           have hp9 : p < 9 := by omega
           have hpn : p ≤ n := by omega
           have hpi : (x : Int) - 1 = (p : Int) := by omega
           have e9 : IntKind.i64.wrap ((x : Int) - 1) = (p : Int) := (IntWalk.i64_in _ (by omega)).trans hpi
           have hp0 : (0 : Int) ≤ (p : Int) := Int.natCast_nonneg _
           have hp1 : (p : Int) < 9 := by omega
           have hp3 : (p : Int).toNat = p := by omega
           obtain ⟨g0, hg0⟩ : ∃ z, Fk (p, y) = z := ⟨_, rfl⟩
           obtain ⟨g1, hg1⟩ : ∃ z, g0 * u = z := ⟨_, rfl⟩
           obtain ⟨a1, ha1⟩ : ∃ z, a0 + g1 = z := ⟨_, rfl⟩
           have Ha1 : Hid (Fk (x, y) * e + (if 0 < x then Fk (x - 1, y) * u else 0) = a1 ∧ Fits a1) := Lib.hid (by
            have h : Fk (x, y) * e + (if 0 < x then Fk (x - 1, y) * u else 0) = a1 := by rw [HA0.out.1, if_pos (by omega), hp, hg0, hg1, ha1]
            exact ⟨h, by rw [← h]; exact HR0.out.f3 (x, y)⟩)
           have HG := Lib.hid (And.intro hg1 ha1)
           have HGF : Hid (Fits g0 ∧ Fits g1) := Lib.hid (by rw [← hg1, ← hg0]; exact ⟨HR0.out.f1 _, HR0.out.fu _⟩)
           have hcl := H_m.out.cells hp9 hy9 (show KA n p y from ⟨hpn, hly⟩)
           rw [hg0] at hcl
           obtain ⟨m0, m1⟩ := hcl
           clear hp hg0 hg1 ha1 hpi
           have hgt : (0 : Int) < (x : Int) := by omega
           have c_a_0 : w10'.cell? ⟨b_a, 0, none⟩ = some (.string (showN a0)) := HB_a.out.2 0
           have c_a_1 : w10'.cell? ⟨b_a, 1, none⟩ = some (.string (showD a0)) := HB_a.out.2 1
           have c_u_0 : w10'.cell? ⟨(w.heap.size + 1), 0, none⟩ = some (.string (showN (u))) := HB_u.out.2 0
           have c_u_1 : w10'.cell? ⟨(w.heap.size + 1), 1, none⟩ = some (.string (showD (u))) := HB_u.out.2 1
           go_upto_region 26 with (fail)
           refine Grow.wp_region_grow 10 [TP.eq (rtV a0), TP.eq (.int .i64 (x : Int)), TP.eq (.int .i64 (p : Int)), TP.eq (.int .i64 (y : Int)), TP.eq (.pointer (some ⟨b_m, p * 18, none⟩)), TP.eq (.pointer (some ⟨b_m, p * 18 + y * 2, none⟩)), TP.eq (rtV g0), TP.eq (rtV u), TP.eq (rtV g1), TP.eq (rtV a1)] [[], [], [1], [], [2], [4, 3], [5], [], [6, 7], [0, 8]] (by kernel_rfl) (by kernel_rfl) ⟨?o0x, ?o1x, ?o2x, ?o3x, ?o4x, ?o5x, ?o6x, ?o7x, ?o8x, ?o9x, trivial⟩ ?_
           case o0x =>
            intro w' hb
            have c_a_0' := zzc hb c_a_0
            have c_a_1' := zzc hb c_a_1
            show wpList _ _ _ _ _ _
            go_wp2
            exact ⟨rfl, Below.refl _ _, rfl⟩
           case o1x =>
            intro w' hb
            show wpList _ _ _ _ _ _
            go_wp2
            exact ⟨rfl, Below.refl _ _, rfl⟩
           case o2x =>
            intro w' hb v1 hv1
            obtain rfl : v1 = _ := hv1
            show wpList _ _ _ _ _ _
            simp only [Grow.dstOf, zz1, zz2, zz3, zz4, Act.put, zz5, zz6, zz7]
            go_wp2
            exact ⟨rfl, Below.refl _ _, rfl⟩
           case o3x =>
            intro w' hb
            show wpList _ _ _ _ _ _
            go_wp2
            exact ⟨rfl, Below.refl _ _, rfl⟩
           case o4x =>
            intro w' hb v1 hv1
            obtain rfl : v1 = _ := hv1
            show wpList _ _ _ _ _ _
            simp only [Grow.dstOf, zz1, zz2, zz3, zz4, Act.put, zz5, zz6, zz7]
            go_wp2
            exact ⟨rfl, Below.refl _ _, rfl⟩
           case o5x =>
            intro w' hb v1 hv1 v2 hv2
            obtain rfl : v1 = _ := hv1
            obtain rfl : v2 = _ := hv2
            show wpList _ _ _ _ _ _
            simp only [Grow.dstOf, zz1, zz2, zz3, zz4, Act.put, zz5, zz6, zz7]
            go_wp2
            exact ⟨rfl, Below.refl _ _, rfl⟩
           case o6x =>
            intro w' hb v1 hv1
            obtain rfl : v1 = _ := hv1
            have m0' := zzc hb m0
            have m1' := zzc hb m1
            show wpList _ _ _ _ _ _
            simp only [Grow.dstOf, zz1, zz2, zz3, zz4, Act.put, zz5, zz6, zz7]
            go_wp2
            exact ⟨rfl, Below.refl _ _, rfl⟩
           case o7x =>
            intro w' hb
            have c_u_0' := zzc hb c_u_0
            have c_u_1' := zzc hb c_u_1
            show wpList _ _ _ _ _ _
            go_wp2
            exact ⟨rfl, Below.refl _ _, rfl⟩
           case o8x =>
            intro w' hb v1 hv1 v2 hv2
            obtain rfl : v1 = _ := hv1
            obtain rfl : v2 = _ := hv2
            show wpList _ _ _ _ _ _
            simp only [Grow.dstOf, zz1, zz2, zz3, zz4, Act.put, zz5, zz6, zz7]
            go_wp2_with fail
            refine (times_is g0 u g1 HG.out.1 HGF.out.1 hgu.out HGF.out.2 w' (HT0.out.ext (ext_trans HW.out hb))).mono ?_
            rintro e wz ⟨rfl, hbz⟩
            go_wp2
            exact ⟨rfl, hbz, rfl⟩
           case o9x =>
            intro w' hb v1 hv1 v2 hv2
            obtain rfl : v1 = _ := hv1
            obtain rfl : v2 = _ := hv2
            show wpList _ _ _ _ _ _
            simp only [Grow.dstOf, zz1, zz2, zz3, zz4, Act.put, zz5, zz6, zz7]
            go_wp2_with fail
            refine (plus_is a0 g1 a1 HG.out.2 Ha0_in.out HGF.out.2 Ha1.out.2 w' (HT0.out.ext (ext_trans HW.out hb))).mono ?_
            rintro e wz ⟨rfl, hbz⟩
            go_wp2
            exact ⟨rfl, hbz, rfl⟩
           intro w11' hbz u0 hu0 u1 hu1 u2 hu2 u3 hu3 u4 hu4 u5 hu5 u6 hu6 u7 hu7 u8 hu8 u9 hu9
           obtain rfl : u9 = _ := hu9
           clear hu0 hu1 hu2 hu3 hu4 hu5 hu6 hu7 hu8
           replace HB_t := Lib.hid (HB_t.out.ext hbz)
           replace HB_u := Lib.hid (HB_u.out.ext hbz)
           replace HB_v := Lib.hid (HB_v.out.ext hbz)
           replace HB_e := Lib.hid (HB_e.out.ext hbz)
           replace HF_o := Lib.hid (HF_o.out.ext HB_o.out hbz)
           replace HB_o := Lib.hid (HB_o.out.ext hbz)
           replace HF_s := Lib.hid (HF_s.out.ext HB_s.out hbz)
           replace HB_s := Lib.hid (HB_s.out.ext hbz)
           replace HF_a := Lib.hid (HF_a.out.ext HB_a.out hbz)
           replace HB_a := Lib.hid (HB_a.out.ext hbz)
           replace H_m := Lib.hid (H_m.out.ext hbz)
           replace H_x := Lib.hid (H_x.out.ext hbz)
           replace H_n := Lib.hid (H_n.out.ext hbz)
           replace HW := Lib.hid (ext_trans HW.out hbz)
           clear c_a_0 c_a_1 c_u_0 c_u_1
           clear hbz
           show wpList _ _ _ _ _ _
           simp only [Act.put, zz5, zz6, zz7]
           clear m0 m1 e9 hgt hp0 hp1 hp3 hp9 hpn HG HGF
           have c_a_0 : w11'.cell? ⟨b_a, 0, none⟩ = some (.string (showN a0)) := HB_a.out.2 0
           have c_a_1 : w11'.cell? ⟨b_a, 1, none⟩ = some (.string (showD a0)) := HB_a.out.2 1
           have f_a_0 := HF_a.out 0
           have f_a_1 := HF_a.out 1
           go_wp2
           obtain ⟨w12', hX⟩ : ∃ X, X = ((w11'.setCell ⟨b_a, 0, none⟩ (.string (showN a1))).setCell ⟨b_a, 1, none⟩ (.string (showD a1))) := ⟨_, rfl⟩
           rw [← hX]
           have nB_t : Hid (Box w12' w.heap.size #[.int .i64 d, .int .i64 (bets : Int), .string (showN q), .string (showD q)]) := by rw [hX]; exact Lib.hid (boxn_other (boxn_other (HB_t.out) (show w.heap.size ≠ b_a by omega) (0) (.string (showN a1))) (show w.heap.size ≠ b_a by omega) (1) (.string (showD a1)))
           have nB_u : Hid (Box w12' (w.heap.size + 1) #[.string (showN (u)), .string (showD (u))]) := by rw [hX]; exact Lib.hid (boxn_other (boxn_other (HB_u.out) (show (w.heap.size + 1) ≠ b_a by omega) (0) (.string (showN a1))) (show (w.heap.size + 1) ≠ b_a by omega) (1) (.string (showD a1)))
           have nB_v : Hid (Box w12' (w.heap.size + 2) #[.string (showN (v)), .string (showD (v))]) := by rw [hX]; exact Lib.hid (boxn_other (boxn_other (HB_v.out) (show (w.heap.size + 2) ≠ b_a by omega) (0) (.string (showN a1))) (show (w.heap.size + 2) ≠ b_a by omega) (1) (.string (showD a1)))
           have nB_e : Hid (Box w12' (w.heap.size + 3) #[.string (showN (e)), .string (showD (e))]) := by rw [hX]; exact Lib.hid (boxn_other (boxn_other (HB_e.out) (show (w.heap.size + 3) ≠ b_a by omega) (0) (.string (showN a1))) (show (w.heap.size + 3) ≠ b_a by omega) (1) (.string (showD a1)))
           have nB_o : Hid (Box w12' (w.heap.size + 4) #[.string ⟨#[]⟩, .string ⟨#[]⟩]) := by rw [hX]; exact Lib.hid (boxn_other (boxn_other (HB_o.out) (show (w.heap.size + 4) ≠ b_a by omega) (0) (.string (showN a1))) (show (w.heap.size + 4) ≠ b_a by omega) (1) (.string (showD a1)))
           have nF_o : Hid (Fre w12' (w.heap.size + 4)) := by rw [hX]; exact Lib.hid (fun j => by simp only [World.frozen?_setCell]; exact HF_o.out j)
           have nB_s : Hid (Box w12' b_s #[.string (showN (sy)), .string (showD (sy))]) := by rw [hX]; exact Lib.hid (boxn_other (boxn_other (HB_s.out) (show b_s ≠ b_a by omega) (0) (.string (showN a1))) (show b_s ≠ b_a by omega) (1) (.string (showD a1)))
           have nF_s : Hid (Fre w12' b_s) := by rw [hX]; exact Lib.hid (fun j => by simp only [World.frozen?_setCell]; exact HF_s.out j)
           have nB_a : Hid (Box w12' b_a #[.string (showN a1), .string (showD a1)]) := by rw [hX]; exact Lib.hid (boxn_cell (boxn_cell (HB_a.out) (j := 0) (by simp) (.string (showN a1))) (j := 1) (by simp) (.string (showD a1)))
           have nF_a : Hid (Fre w12' b_a) := by rw [hX]; exact Lib.hid (fun j => by simp only [World.frozen?_setCell]; exact HF_a.out j)
           have n_H_m : Hid (GB w12' b_m (KA n) Fk) := by rw [hX]; exact Lib.hid (((H_m.out).other (p := ⟨b_a, 0, none⟩) (show b_m ≠ b_a by omega) (.string (showN a1))).other (p := ⟨b_a, 1, none⟩) (show b_m ≠ b_a by omega) (.string (showD a1)))
           have n_H_x : Hid (EB w12' b_x (KA n) E) := by rw [hX]; exact Lib.hid (((H_x.out).other (p := ⟨b_a, 0, none⟩) (show b_x ≠ b_a by omega) (.string (showN a1))).other (p := ⟨b_a, 1, none⟩) (show b_x ≠ b_a by omega) (.string (showD a1)))
           have n_H_n : Hid (GB w12' b_n (KA n) (mixF n x y Nx Fk)) := by rw [hX]; exact Lib.hid (((H_n.out).other (p := ⟨b_a, 0, none⟩) (show b_n ≠ b_a by omega) (.string (showN a1))).other (p := ⟨b_a, 1, none⟩) (show b_n ≠ b_a by omega) (.string (showD a1)))
           have nW : Hid (Below w.heap.size w w12') := by rw [hX]; exact Lib.hid (((HW.out).setCell (p := ⟨b_a, 0, none⟩) (show w.heap.size ≤ b_a by omega) (.string (showN a1))).setCell (p := ⟨b_a, 1, none⟩) (show w.heap.size ≤ b_a by omega) (.string (showD a1)))
           clear c_a_0 c_a_1 f_a_0 f_a_1
           clear hX HB_t HB_u HB_v HB_e HB_o HF_o HB_s HF_s HB_a HF_a HW H_m H_x H_n
           have HB_t := nB_t; clear nB_t
           have HB_u := nB_u; clear nB_u
           have HB_v := nB_v; clear nB_v
           have HB_e := nB_e; clear nB_e
           have HB_o := nB_o; clear nB_o; have HF_o := nF_o; clear nF_o
           have HB_s := nB_s; clear nB_s; have HF_s := nF_s; clear nF_s
           have HB_a := nB_a; clear nB_a; have HF_a := nF_a; clear nF_a
           have H_m := n_H_m; clear n_H_m
           have H_x := n_H_x; clear n_H_x
           have H_n := n_H_n; clear n_H_n
           have HW := nW; clear nW
           go_meet
           case rel => exact ⟨_, a1, rfl, rfl, Ha1, HB_t.out, HB_u.out, HB_v.out, HB_e.out, HB_o.out, HF_o.out, HB_s.out, HF_s.out, HB_a.out, HF_a.out, H_m.out, H_x.out, H_n.out, HW.out⟩
          ·have hgt : ¬ (0 : Int) < (x : Int) := by omega
           obtain ⟨a1, ha1⟩ : ∃ z, a0 = z := ⟨_, rfl⟩
           have Ha1 : Hid (Fk (x, y) * e + (if 0 < x then Fk (x - 1, y) * u else 0) = a1 ∧ Fits a1) := Lib.hid (by
            have h : Fk (x, y) * e + (if 0 < x then Fk (x - 1, y) * u else 0) = a1 := by rw [HA0.out.1, if_neg (by omega), Rat.add_zero, ha1]
            exact ⟨h, by rw [← h]; exact HR0.out.f3 (x, y)⟩)
           have HAE := Lib.hid ha1
           clear ha1
           go_wp2
           clear hgt
           replace HB_a : Hid (Box w10' b_a #[.string (showN a1), .string (showD a1)]) := Lib.hid (by rw [← HAE.out]; exact HB_a.out)
           clear HAE
           go_meet
           case rel => exact ⟨_, a1, rfl, rfl, Ha1, HB_t.out, HB_u.out, HB_v.out, HB_e.out, HB_o.out, HF_o.out, HB_s.out, HF_s.out, HB_a.out, HF_a.out, H_m.out, H_x.out, H_n.out, HW.out⟩
         case rest =>
          obtain ⟨wv, a1, rfl, rfl, q_P, q_HB_t, q_HB_u, q_HB_v, q_HB_e, q_HB_o, q_HF_o, q_HB_s, q_HF_s, q_HB_a, q_HF_a, q_H_m, q_H_x, q_H_n, q_HW⟩ := hcut
          clear HB_t HB_u HB_v HB_e HB_o HF_o HB_s HF_s HB_a HF_a H_m H_x H_n HW
          have Ha1 : Hid (Fk (x, y) * e + (if 0 < x then Fk (x - 1, y) * u else 0) = a1 ∧ Fits a1) := q_P
          clear q_P
          have HB_t := Lib.hid q_HB_t
          have HB_u := Lib.hid q_HB_u
          have HB_v := Lib.hid q_HB_v
          have HB_e := Lib.hid q_HB_e
          have HB_o := Lib.hid q_HB_o
          have HF_o := Lib.hid q_HF_o
          have HB_s := Lib.hid q_HB_s
          have HF_s := Lib.hid q_HF_s
          have HB_a := Lib.hid q_HB_a
          have HF_a := Lib.hid q_HF_a
          have H_m := Lib.hid q_H_m
          have H_x := Lib.hid q_H_x
          have H_n := Lib.hid q_H_n
          have HW := Lib.hid q_HW
          clear q_HB_t q_HB_u q_HB_v q_HB_e q_HB_o q_HF_o q_HB_s q_HF_s q_HB_a q_HF_a q_H_m q_H_x q_H_n q_HW
          generalize hX : wv = Xx at *
          clear hX
          have Ha1_in : Hid (Fits a1) := Lib.hid Ha1.out.2
          go_upto_if 93 with (fail)
          go_cut [70] (fun s9 wx => ∃ (wv : World) (a2 : Rat), wv = wx ∧ s9 = .int .i64 (y : Int) ∧ Hid (arr u v e Fk (x, y) = a2 ∧ Fits a2) ∧ (Box wv w.heap.size #[.int .i64 d, .int .i64 (bets : Int), .string (showN q), .string (showD q)]) ∧ (Box wv (w.heap.size + 1) #[.string (showN (u)), .string (showD (u))]) ∧ (Box wv (w.heap.size + 2) #[.string (showN (v)), .string (showD (v))]) ∧ (Box wv (w.heap.size + 3) #[.string (showN (e)), .string (showD (e))]) ∧ (Box wv (w.heap.size + 4) #[.string ⟨#[]⟩, .string ⟨#[]⟩]) ∧ (Fre wv (w.heap.size + 4)) ∧ (Box wv b_s #[.string (showN (sy)), .string (showD (sy))]) ∧ (Fre wv b_s) ∧ (Box wv b_a #[.string (showN (a2)), .string (showD (a2))]) ∧ (Fre wv b_a) ∧ (GB wv b_m (KA n) Fk) ∧ (EB wv b_x (KA n) E) ∧ (GB wv b_n (KA n) (mixF n x y Nx Fk)) ∧ (Below w.heap.size w wv))
          case first =>
           by_cases hif : 0 < y
           ·obtain ⟨p, hp⟩ : ∃ p, y - 1 = p := ⟨_, rfl⟩
            have hp9 : p < 9 := by omega
            have hpn : p ≤ n := by omega
            have hpi : (y : Int) - 1 = (p : Int) := by omega
            have e9 : IntKind.i64.wrap ((y : Int) - 1) = (p : Int) := (IntWalk.i64_in _ (by omega)).trans hpi
            have hp0 : (0 : Int) ≤ (p : Int) := Int.natCast_nonneg _
            have hp1 : (p : Int) < 9 := by omega
            have hp3 : (p : Int).toNat = p := by omega
            obtain ⟨g0, hg0⟩ : ∃ z, Fk (x, p) = z := ⟨_, rfl⟩
            obtain ⟨g1, hg1⟩ : ∃ z, g0 * v = z := ⟨_, rfl⟩
            obtain ⟨a2, ha2⟩ : ∃ z, a1 + g1 = z := ⟨_, rfl⟩
            have Ha2 : Hid (arr u v e Fk (x, y) = a2 ∧ Fits a2) := Lib.hid (by
             have h : arr u v e Fk (x, y) = a2 := by
              unfold arr
              simp only
              rw [Ha1.out.1, if_pos (by omega), hp, hg0, hg1, ha2]
             exact ⟨h, by rw [← h]; exact HR0.out.f4 (x, y)⟩)
            have HG := Lib.hid (And.intro hg1 ha2)
            have HGF : Hid (Fits g0 ∧ Fits g1) := Lib.hid (by rw [← hg1, ← hg0]; exact ⟨HR0.out.f1 _, HR0.out.fd _⟩)
            have hcl := H_m.out.cells hx9 hp9 (show KA n x p from ⟨hlx, hpn⟩)
            rw [hg0] at hcl
            obtain ⟨m0, m1⟩ := hcl
            clear hp hg0 hg1 ha2 hpi
            have hgt : (0 : Int) < (y : Int) := by omega
            have c_a_0 : Xx.cell? ⟨b_a, 0, none⟩ = some (.string (showN (a1))) := HB_a.out.2 0
            have c_a_1 : Xx.cell? ⟨b_a, 1, none⟩ = some (.string (showD (a1))) := HB_a.out.2 1
            have c_v_0 : Xx.cell? ⟨(w.heap.size + 2), 0, none⟩ = some (.string (showN (v))) := HB_v.out.2 0
            have c_v_1 : Xx.cell? ⟨(w.heap.size + 2), 1, none⟩ = some (.string (showD (v))) := HB_v.out.2 1
            go_upto_region 28 with (fail)
            refine Grow.wp_region_grow 10 [TP.eq (rtV a1), TP.eq (.int .i64 (x : Int)), TP.eq (.int .i64 (y : Int)), TP.eq (.int .i64 (p : Int)), TP.eq (.pointer (some ⟨b_m, x * 18, none⟩)), TP.eq (.pointer (some ⟨b_m, x * 18 + p * 2, none⟩)), TP.eq (rtV g0), TP.eq (rtV v), TP.eq (rtV g1), TP.eq (rtV a2)] [[], [], [], [2], [1], [4, 3], [5], [], [6, 7], [0, 8]] (by kernel_rfl) (by kernel_rfl) ⟨?o0y, ?o1y, ?o2y, ?o3y, ?o4y, ?o5y, ?o6y, ?o7y, ?o8y, ?o9y, trivial⟩ ?_
            case o0y =>
             intro w' hb
             have c_a_0' := zzc hb c_a_0
             have c_a_1' := zzc hb c_a_1
             show wpList _ _ _ _ _ _
             go_wp2
             exact ⟨rfl, Below.refl _ _, rfl⟩
            case o1y =>
             intro w' hb
             show wpList _ _ _ _ _ _
             go_wp2
             exact ⟨rfl, Below.refl _ _, rfl⟩
            case o2y =>
             intro w' hb
             show wpList _ _ _ _ _ _
             go_wp2
             exact ⟨rfl, Below.refl _ _, rfl⟩
            case o3y =>
             intro w' hb v1 hv1
             obtain rfl : v1 = _ := hv1
             show wpList _ _ _ _ _ _
             simp only [Grow.dstOf, zz1, zz2, zz3, zz4, Act.put, zz5, zz6, zz7]
             go_wp2
             exact ⟨rfl, Below.refl _ _, rfl⟩
            case o4y =>
             intro w' hb v1 hv1
             obtain rfl : v1 = _ := hv1
             show wpList _ _ _ _ _ _
             simp only [Grow.dstOf, zz1, zz2, zz3, zz4, Act.put, zz5, zz6, zz7]
             go_wp2
             exact ⟨rfl, Below.refl _ _, rfl⟩
            case o5y =>
             intro w' hb v1 hv1 v2 hv2
             obtain rfl : v1 = _ := hv1
             obtain rfl : v2 = _ := hv2
             show wpList _ _ _ _ _ _
             simp only [Grow.dstOf, zz1, zz2, zz3, zz4, Act.put, zz5, zz6, zz7]
             go_wp2
             exact ⟨rfl, Below.refl _ _, rfl⟩
            case o6y =>
             intro w' hb v1 hv1
             obtain rfl : v1 = _ := hv1
             have m0' := zzc hb m0
             have m1' := zzc hb m1
             show wpList _ _ _ _ _ _
             simp only [Grow.dstOf, zz1, zz2, zz3, zz4, Act.put, zz5, zz6, zz7]
             go_wp2
             exact ⟨rfl, Below.refl _ _, rfl⟩
            case o7y =>
             intro w' hb
             have c_v_0' := zzc hb c_v_0
             have c_v_1' := zzc hb c_v_1
             show wpList _ _ _ _ _ _
             go_wp2
             exact ⟨rfl, Below.refl _ _, rfl⟩
            case o8y =>
             intro w' hb v1 hv1 v2 hv2
             obtain rfl : v1 = _ := hv1
             obtain rfl : v2 = _ := hv2
             show wpList _ _ _ _ _ _
             simp only [Grow.dstOf, zz1, zz2, zz3, zz4, Act.put, zz5, zz6, zz7]
             go_wp2_with fail
             refine (times_is g0 v g1 HG.out.1 HGF.out.1 hgv.out HGF.out.2 w' (HT0.out.ext (ext_trans HW.out hb))).mono ?_
             rintro e wz ⟨rfl, hbz⟩
             go_wp2
             exact ⟨rfl, hbz, rfl⟩
            case o9y =>
             intro w' hb v1 hv1 v2 hv2
             obtain rfl : v1 = _ := hv1
             obtain rfl : v2 = _ := hv2
             show wpList _ _ _ _ _ _
             simp only [Grow.dstOf, zz1, zz2, zz3, zz4, Act.put, zz5, zz6, zz7]
             go_wp2_with fail
             refine (plus_is a1 g1 a2 HG.out.2 Ha1_in.out HGF.out.2 Ha2.out.2 w' (HT0.out.ext (ext_trans HW.out hb))).mono ?_
             rintro e wz ⟨rfl, hbz⟩
             go_wp2
             exact ⟨rfl, hbz, rfl⟩
            intro w11' hbz u0 hu0 u1 hu1 u2 hu2 u3 hu3 u4 hu4 u5 hu5 u6 hu6 u7 hu7 u8 hu8 u9 hu9
            obtain rfl : u9 = _ := hu9
            clear hu0 hu1 hu2 hu3 hu4 hu5 hu6 hu7 hu8
            replace HB_t := Lib.hid (HB_t.out.ext hbz)
            replace HB_u := Lib.hid (HB_u.out.ext hbz)
            replace HB_v := Lib.hid (HB_v.out.ext hbz)
            replace HB_e := Lib.hid (HB_e.out.ext hbz)
            replace HF_o := Lib.hid (HF_o.out.ext HB_o.out hbz)
            replace HB_o := Lib.hid (HB_o.out.ext hbz)
            replace HF_s := Lib.hid (HF_s.out.ext HB_s.out hbz)
            replace HB_s := Lib.hid (HB_s.out.ext hbz)
            replace HF_a := Lib.hid (HF_a.out.ext HB_a.out hbz)
            replace HB_a := Lib.hid (HB_a.out.ext hbz)
            replace H_m := Lib.hid (H_m.out.ext hbz)
            replace H_x := Lib.hid (H_x.out.ext hbz)
            replace H_n := Lib.hid (H_n.out.ext hbz)
            replace HW := Lib.hid (ext_trans HW.out hbz)
            clear c_a_0 c_a_1 c_v_0 c_v_1
            clear hbz
            show wpList _ _ _ _ _ _
            simp only [Act.put, zz5, zz6, zz7]
            clear m0 m1 e9 hgt hp0 hp1 hp3 hp9 hpn HG HGF
            have c_a_0 : w11'.cell? ⟨b_a, 0, none⟩ = some (.string (showN (a1))) := HB_a.out.2 0
            have c_a_1 : w11'.cell? ⟨b_a, 1, none⟩ = some (.string (showD (a1))) := HB_a.out.2 1
            have f_a_0 := HF_a.out 0
            have f_a_1 := HF_a.out 1
            go_wp2
            obtain ⟨w12', hX⟩ : ∃ X, X = ((w11'.setCell ⟨b_a, 0, none⟩ (.string (showN a2))).setCell ⟨b_a, 1, none⟩ (.string (showD a2))) := ⟨_, rfl⟩
            rw [← hX]
            have nB_t : Hid (Box w12' w.heap.size #[.int .i64 d, .int .i64 (bets : Int), .string (showN q), .string (showD q)]) := by rw [hX]; exact Lib.hid (boxn_other (boxn_other (HB_t.out) (show w.heap.size ≠ b_a by omega) (0) (.string (showN a2))) (show w.heap.size ≠ b_a by omega) (1) (.string (showD a2)))
            have nB_u : Hid (Box w12' (w.heap.size + 1) #[.string (showN (u)), .string (showD (u))]) := by rw [hX]; exact Lib.hid (boxn_other (boxn_other (HB_u.out) (show (w.heap.size + 1) ≠ b_a by omega) (0) (.string (showN a2))) (show (w.heap.size + 1) ≠ b_a by omega) (1) (.string (showD a2)))
            have nB_v : Hid (Box w12' (w.heap.size + 2) #[.string (showN (v)), .string (showD (v))]) := by rw [hX]; exact Lib.hid (boxn_other (boxn_other (HB_v.out) (show (w.heap.size + 2) ≠ b_a by omega) (0) (.string (showN a2))) (show (w.heap.size + 2) ≠ b_a by omega) (1) (.string (showD a2)))
            have nB_e : Hid (Box w12' (w.heap.size + 3) #[.string (showN (e)), .string (showD (e))]) := by rw [hX]; exact Lib.hid (boxn_other (boxn_other (HB_e.out) (show (w.heap.size + 3) ≠ b_a by omega) (0) (.string (showN a2))) (show (w.heap.size + 3) ≠ b_a by omega) (1) (.string (showD a2)))
            have nB_o : Hid (Box w12' (w.heap.size + 4) #[.string ⟨#[]⟩, .string ⟨#[]⟩]) := by rw [hX]; exact Lib.hid (boxn_other (boxn_other (HB_o.out) (show (w.heap.size + 4) ≠ b_a by omega) (0) (.string (showN a2))) (show (w.heap.size + 4) ≠ b_a by omega) (1) (.string (showD a2)))
            have nF_o : Hid (Fre w12' (w.heap.size + 4)) := by rw [hX]; exact Lib.hid (fun j => by simp only [World.frozen?_setCell]; exact HF_o.out j)
            have nB_s : Hid (Box w12' b_s #[.string (showN (sy)), .string (showD (sy))]) := by rw [hX]; exact Lib.hid (boxn_other (boxn_other (HB_s.out) (show b_s ≠ b_a by omega) (0) (.string (showN a2))) (show b_s ≠ b_a by omega) (1) (.string (showD a2)))
            have nF_s : Hid (Fre w12' b_s) := by rw [hX]; exact Lib.hid (fun j => by simp only [World.frozen?_setCell]; exact HF_s.out j)
            have nB_a : Hid (Box w12' b_a #[.string (showN a2), .string (showD a2)]) := by rw [hX]; exact Lib.hid (boxn_cell (boxn_cell (HB_a.out) (j := 0) (by simp) (.string (showN a2))) (j := 1) (by simp) (.string (showD a2)))
            have nF_a : Hid (Fre w12' b_a) := by rw [hX]; exact Lib.hid (fun j => by simp only [World.frozen?_setCell]; exact HF_a.out j)
            have n_H_m : Hid (GB w12' b_m (KA n) Fk) := by rw [hX]; exact Lib.hid (((H_m.out).other (p := ⟨b_a, 0, none⟩) (show b_m ≠ b_a by omega) (.string (showN a2))).other (p := ⟨b_a, 1, none⟩) (show b_m ≠ b_a by omega) (.string (showD a2)))
            have n_H_x : Hid (EB w12' b_x (KA n) E) := by rw [hX]; exact Lib.hid (((H_x.out).other (p := ⟨b_a, 0, none⟩) (show b_x ≠ b_a by omega) (.string (showN a2))).other (p := ⟨b_a, 1, none⟩) (show b_x ≠ b_a by omega) (.string (showD a2)))
            have n_H_n : Hid (GB w12' b_n (KA n) (mixF n x y Nx Fk)) := by rw [hX]; exact Lib.hid (((H_n.out).other (p := ⟨b_a, 0, none⟩) (show b_n ≠ b_a by omega) (.string (showN a2))).other (p := ⟨b_a, 1, none⟩) (show b_n ≠ b_a by omega) (.string (showD a2)))
            have nW : Hid (Below w.heap.size w w12') := by rw [hX]; exact Lib.hid (((HW.out).setCell (p := ⟨b_a, 0, none⟩) (show w.heap.size ≤ b_a by omega) (.string (showN a2))).setCell (p := ⟨b_a, 1, none⟩) (show w.heap.size ≤ b_a by omega) (.string (showD a2)))
            clear c_a_0 c_a_1 f_a_0 f_a_1
            clear hX HB_t HB_u HB_v HB_e HB_o HF_o HB_s HF_s HB_a HF_a HW H_m H_x H_n
            have HB_t := nB_t; clear nB_t
            have HB_u := nB_u; clear nB_u
            have HB_v := nB_v; clear nB_v
            have HB_e := nB_e; clear nB_e
            have HB_o := nB_o; clear nB_o; have HF_o := nF_o; clear nF_o
            have HB_s := nB_s; clear nB_s; have HF_s := nF_s; clear nF_s
            have HB_a := nB_a; clear nB_a; have HF_a := nF_a; clear nF_a
            have H_m := n_H_m; clear n_H_m
            have H_x := n_H_x; clear n_H_x
            have H_n := n_H_n; clear n_H_n
            have HW := nW; clear nW
            go_meet
            case rel => exact ⟨_, a2, rfl, rfl, Ha2, HB_t.out, HB_u.out, HB_v.out, HB_e.out, HB_o.out, HF_o.out, HB_s.out, HF_s.out, HB_a.out, HF_a.out, H_m.out, H_x.out, H_n.out, HW.out⟩
           ·have hgt : ¬ (0 : Int) < (y : Int) := by omega
            obtain ⟨a2, ha2⟩ : ∃ z, a1 = z := ⟨_, rfl⟩
            have Ha2 : Hid (arr u v e Fk (x, y) = a2 ∧ Fits a2) := Lib.hid (by
             have h : arr u v e Fk (x, y) = a2 := by
              unfold arr
              simp only
              rw [Ha1.out.1, if_neg (by omega), Rat.add_zero, ha2]
             exact ⟨h, by rw [← h]; exact HR0.out.f4 (x, y)⟩)
            have HAE := Lib.hid ha2
            clear ha2
            go_wp2
            clear hgt
            replace HB_a : Hid (Box Xx b_a #[.string (showN a2), .string (showD a2)]) := Lib.hid (by rw [← HAE.out]; exact HB_a.out)
            clear HAE
            go_meet
            case rel => exact ⟨_, a2, rfl, rfl, Ha2, HB_t.out, HB_u.out, HB_v.out, HB_e.out, HB_o.out, HF_o.out, HB_s.out, HF_s.out, HB_a.out, HF_a.out, H_m.out, H_x.out, H_n.out, HW.out⟩
          case rest =>
           obtain ⟨wv, a2, rfl, rfl, q_P, q_HB_t, q_HB_u, q_HB_v, q_HB_e, q_HB_o, q_HF_o, q_HB_s, q_HF_s, q_HB_a, q_HF_a, q_H_m, q_H_x, q_H_n, q_HW⟩ := hcut
           clear HB_t HB_u HB_v HB_e HB_o HF_o HB_s HF_s HB_a HF_a H_m H_x H_n HW
           have Ha2 : Hid (arr u v e Fk (x, y) = a2 ∧ Fits a2) := q_P
           clear q_P
           have HB_t := Lib.hid q_HB_t
           have HB_u := Lib.hid q_HB_u
           have HB_v := Lib.hid q_HB_v
           have HB_e := Lib.hid q_HB_e
           have HB_o := Lib.hid q_HB_o
           have HF_o := Lib.hid q_HF_o
           have HB_s := Lib.hid q_HB_s
           have HF_s := Lib.hid q_HF_s
           have HB_a := Lib.hid q_HB_a
           have HF_a := Lib.hid q_HF_a
           have H_m := Lib.hid q_H_m
           have H_x := Lib.hid q_H_x
           have H_n := Lib.hid q_H_n
           have HW := Lib.hid q_HW
           clear q_HB_t q_HB_u q_HB_v q_HB_e q_HB_o q_HF_o q_HB_s q_HF_s q_HB_a q_HF_a q_H_m q_H_x q_H_n q_HW
           generalize hX : wv = Xy at *
           clear hX
           have hce := H_x.out.cell hx9 hy9 (show KA n x y from ⟨hlx, hly⟩)
           obtain ⟨r, hr⟩ : ∃ r, E (x, y) = r := ⟨_, rfl⟩
           rw [hr] at hce
           have HR := Lib.hid hr
           clear hr
           cases r
           ·have HSN : Hid (sy = S0 + gridS Gk n x + rowS Gk x (y + 1)) := Lib.hid (by rw [rowS_step, HR0.out.g, HR.out, if_neg (by decide), Rat.add_zero]; exact HSY.out)
            have HNV : Hid (Nx (x, y) = a2) := Lib.hid (by rw [HR0.out.h, HR.out, if_neg (by decide), Ha2.out.1])
            go_upto_region 31 with (fail)
            clear hce
            have c_a_0 : Xy.cell? ⟨b_a, 0, none⟩ = some (.string (showN (a2))) := HB_a.out.2 0
            have c_a_1 : Xy.cell? ⟨b_a, 1, none⟩ = some (.string (showD (a2))) := HB_a.out.2 1
            refine Grow.wp_region_grow 5 [TP.eq (.int .i64 (x : Int)), TP.eq (.int .i64 (y : Int)), TP.eq (rtV a2), TP.eq (.pointer (some ⟨b_n, x * 18, none⟩)), TP.eq (.pointer (some ⟨b_n, x * 18 + y * 2, none⟩))] [[], [], [], [0], [3, 1]] (by kernel_rfl) (by kernel_rfl) ⟨?o0z, ?o1z, ?o2z, ?o3z, ?o4z, trivial⟩ ?_
            case o0z =>
             intro w' hb
             show wpList _ _ _ _ _ _
             go_wp2
             exact ⟨rfl, Below.refl _ _, rfl⟩
            case o1z =>
             intro w' hb
             show wpList _ _ _ _ _ _
             go_wp2
             exact ⟨rfl, Below.refl _ _, rfl⟩
            case o2z =>
             intro w' hb
             have c_a_0' := zzc hb c_a_0
             have c_a_1' := zzc hb c_a_1
             show wpList _ _ _ _ _ _
             go_wp2
             exact ⟨rfl, Below.refl _ _, rfl⟩
            case o3z =>
             intro w' hb v1 hv1
             obtain rfl : v1 = _ := hv1
             show wpList _ _ _ _ _ _
             simp only [Grow.dstOf, zz1, zz3, zz4, Act.put, zz5, zz6, zz7]
             go_wp2
             exact ⟨rfl, Below.refl _ _, rfl⟩
            case o4z =>
             intro w' hb v1 hv1 v2 hv2
             obtain rfl : v1 = _ := hv1
             obtain rfl : v2 = _ := hv2
             show wpList _ _ _ _ _ _
             simp only [Grow.dstOf, zz1, zz2, zz3, zz4, Act.put, zz5, zz6, zz7]
             go_wp2
             exact ⟨rfl, Below.refl _ _, rfl⟩
            intro w11' hbz u0 hu0 u1 hu1 u2 hu2 u3 hu3 u4 hu4
            obtain rfl : u2 = _ := hu2
            obtain rfl : u4 = _ := hu4
            clear hu0 hu1 hu3
            replace HB_t := Lib.hid (HB_t.out.ext hbz)
            replace HB_u := Lib.hid (HB_u.out.ext hbz)
            replace HB_v := Lib.hid (HB_v.out.ext hbz)
            replace HB_e := Lib.hid (HB_e.out.ext hbz)
            replace HF_o := Lib.hid (HF_o.out.ext HB_o.out hbz)
            replace HB_o := Lib.hid (HB_o.out.ext hbz)
            replace HF_s := Lib.hid (HF_s.out.ext HB_s.out hbz)
            replace HB_s := Lib.hid (HB_s.out.ext hbz)
            replace HF_a := Lib.hid (HF_a.out.ext HB_a.out hbz)
            replace HB_a := Lib.hid (HB_a.out.ext hbz)
            replace H_m := Lib.hid (H_m.out.ext hbz)
            replace H_x := Lib.hid (H_x.out.ext hbz)
            replace H_n := Lib.hid (H_n.out.ext hbz)
            replace HW := Lib.hid (ext_trans HW.out hbz)
            clear c_a_0 c_a_1
            clear hbz
            show wpList _ _ _ _ _ _
            simp only [Act.put, zz5, zz6, zz7]
            obtain ⟨s9, t9, r0, r1, f0, f1⟩ := H_n.out.slot hx9 hy9
            go_upto_region 32 with (fail)
            obtain ⟨w12', hX⟩ : ∃ X, X = ((w11'.setCell ⟨b_n, x * 18 + y * 2, none⟩ (.string (showN a2))).setCell ⟨b_n, x * 18 + y * 2 + 1, none⟩ (.string (showD a2))) := ⟨_, rfl⟩
            rw [← hX]
            have nB_t : Hid (Box w12' w.heap.size #[.int .i64 d, .int .i64 (bets : Int), .string (showN q), .string (showD q)]) := by rw [hX]; exact Lib.hid (boxn_other (boxn_other (HB_t.out) (show w.heap.size ≠ b_n by omega) (x * 18 + y * 2) (.string (showN a2))) (show w.heap.size ≠ b_n by omega) (x * 18 + y * 2 + 1) (.string (showD a2)))
            have nB_u : Hid (Box w12' (w.heap.size + 1) #[.string (showN (u)), .string (showD (u))]) := by rw [hX]; exact Lib.hid (boxn_other (boxn_other (HB_u.out) (show (w.heap.size + 1) ≠ b_n by omega) (x * 18 + y * 2) (.string (showN a2))) (show (w.heap.size + 1) ≠ b_n by omega) (x * 18 + y * 2 + 1) (.string (showD a2)))
            have nB_v : Hid (Box w12' (w.heap.size + 2) #[.string (showN (v)), .string (showD (v))]) := by rw [hX]; exact Lib.hid (boxn_other (boxn_other (HB_v.out) (show (w.heap.size + 2) ≠ b_n by omega) (x * 18 + y * 2) (.string (showN a2))) (show (w.heap.size + 2) ≠ b_n by omega) (x * 18 + y * 2 + 1) (.string (showD a2)))
            have nB_e : Hid (Box w12' (w.heap.size + 3) #[.string (showN (e)), .string (showD (e))]) := by rw [hX]; exact Lib.hid (boxn_other (boxn_other (HB_e.out) (show (w.heap.size + 3) ≠ b_n by omega) (x * 18 + y * 2) (.string (showN a2))) (show (w.heap.size + 3) ≠ b_n by omega) (x * 18 + y * 2 + 1) (.string (showD a2)))
            have nB_o : Hid (Box w12' (w.heap.size + 4) #[.string ⟨#[]⟩, .string ⟨#[]⟩]) := by rw [hX]; exact Lib.hid (boxn_other (boxn_other (HB_o.out) (show (w.heap.size + 4) ≠ b_n by omega) (x * 18 + y * 2) (.string (showN a2))) (show (w.heap.size + 4) ≠ b_n by omega) (x * 18 + y * 2 + 1) (.string (showD a2)))
            have nF_o : Hid (Fre w12' (w.heap.size + 4)) := by rw [hX]; exact Lib.hid (fun j => by simp only [World.frozen?_setCell]; exact HF_o.out j)
            have nB_s : Hid (Box w12' b_s #[.string (showN (sy)), .string (showD (sy))]) := by rw [hX]; exact Lib.hid (boxn_other (boxn_other (HB_s.out) (show b_s ≠ b_n by omega) (x * 18 + y * 2) (.string (showN a2))) (show b_s ≠ b_n by omega) (x * 18 + y * 2 + 1) (.string (showD a2)))
            have nF_s : Hid (Fre w12' b_s) := by rw [hX]; exact Lib.hid (fun j => by simp only [World.frozen?_setCell]; exact HF_s.out j)
            have nB_a : Hid (Box w12' b_a #[.string (showN (a2)), .string (showD (a2))]) := by rw [hX]; exact Lib.hid (boxn_other (boxn_other (HB_a.out) (show b_a ≠ b_n by omega) (x * 18 + y * 2) (.string (showN a2))) (show b_a ≠ b_n by omega) (x * 18 + y * 2 + 1) (.string (showD a2)))
            have nF_a : Hid (Fre w12' b_a) := by rw [hX]; exact Lib.hid (fun j => by simp only [World.frozen?_setCell]; exact HF_a.out j)
            have n_H_m : Hid (GB w12' b_m (KA n) Fk) := by rw [hX]; exact Lib.hid (((H_m.out).other (p := ⟨b_n, x * 18 + y * 2, none⟩) (show b_m ≠ b_n by omega) (.string (showN a2))).other (p := ⟨b_n, x * 18 + y * 2 + 1, none⟩) (show b_m ≠ b_n by omega) (.string (showD a2)))
            have n_H_x : Hid (EB w12' b_x (KA n) E) := by rw [hX]; exact Lib.hid (((H_x.out).other (p := ⟨b_n, x * 18 + y * 2, none⟩) (show b_x ≠ b_n by omega) (.string (showN a2))).other (p := ⟨b_n, x * 18 + y * 2 + 1, none⟩) (show b_x ≠ b_n by omega) (.string (showD a2)))
            have n_H_n : Hid (GB w12' b_n (KA n) (mixF n x (y + 1) Nx Fk)) := by rw [hX]; exact Lib.hid (H_n.out.set hx9 hy9 a2 (fun u v _ _ h => Or.inr h) (fun u v _ _ _ => by rw [mix_set, HNV.out]))
            have nW : Hid (Below w.heap.size w w12') := by rw [hX]; exact Lib.hid (((HW.out).setCell (p := ⟨b_n, x * 18 + y * 2, none⟩) (show w.heap.size ≤ b_n by omega) (.string (showN a2))).setCell (p := ⟨b_n, x * 18 + y * 2 + 1, none⟩) (show w.heap.size ≤ b_n by omega) (.string (showD a2)))
            clear r0 r1 f0 f1
            clear hX HB_t HB_u HB_v HB_e HB_o HF_o HB_s HF_s HB_a HF_a HW H_m H_x H_n
            have HB_t := nB_t; clear nB_t
            have HB_u := nB_u; clear nB_u
            have HB_v := nB_v; clear nB_v
            have HB_e := nB_e; clear nB_e
            have HB_o := nB_o; clear nB_o; have HF_o := nF_o; clear nF_o
            have HB_s := nB_s; clear nB_s; have HF_s := nF_s; clear nF_s
            have HB_a := nB_a; clear nB_a; have HF_a := nF_a; clear nF_a
            have H_m := n_H_m; clear n_H_m
            have H_x := n_H_x; clear n_H_x
            have H_n := n_H_n; clear n_H_n
            have HW := nW; clear nW
            clear HB_a HF_a
            go_wp2
            go_roundw
            case rel => exact ⟨y + 1, sy, by omega, by go_num, HSN, HB_t.out, HB_u.out, HB_v.out, HB_e.out, HB_o.out, HF_o.out, HB_s.out, HF_s.out, H_m.out, H_x.out, H_n.out, HW.out⟩
            case measure => simp [intOf]; omega
           ·obtain ⟨sn, hsn⟩ : ∃ z, sy + a2 = z := ⟨_, rfl⟩
            obtain ⟨zq, hzq⟩ : ∃ z : Rat, (0 : Rat) = z := ⟨_, rfl⟩
            have HSN : Hid (sn = S0 + gridS Gk n x + rowS Gk x (y + 1)) := Lib.hid (by rw [rowS_step, HR0.out.g, HR.out, if_pos rfl, Ha2.out.1, ← hsn, HSY.out, Rat.add_assoc])
            have HSF : Hid (Fits sy ∧ Fits sn) := Lib.hid ⟨by rw [HSY.out]; exact HR0.out.s x y (by omega) (by omega), by rw [HSN.out]; exact HR0.out.s x (y + 1) (by omega) (by omega)⟩
            have HNV : Hid (Nx (x, y) = zq) := Lib.hid (by rw [HR0.out.h, HR.out, if_pos rfl, hzq])
            have HQ := Lib.hid (And.intro hsn hzq)
            clear hsn hzq
            have c_s_0 : Xy.cell? ⟨b_s, 0, none⟩ = some (.string (showN (sy))) := HB_s.out.2 0
            have c_s_1 : Xy.cell? ⟨b_s, 1, none⟩ = some (.string (showD (sy))) := HB_s.out.2 1
            have c_a_0 : Xy.cell? ⟨b_a, 0, none⟩ = some (.string (showN (a2))) := HB_a.out.2 0
            have c_a_1 : Xy.cell? ⟨b_a, 1, none⟩ = some (.string (showD (a2))) := HB_a.out.2 1
            go_wp2_with fail
            refine (plus_is sy a2 sn HQ.out.1 HSF.out.1 Ha2.out.2 HSF.out.2 Xy (HT0.out.ext HW.out)).mono ?_
            rintro e w11' ⟨rfl, hbz⟩
            clear hce
            replace HB_t := Lib.hid (HB_t.out.ext hbz)
            replace HB_u := Lib.hid (HB_u.out.ext hbz)
            replace HB_v := Lib.hid (HB_v.out.ext hbz)
            replace HB_e := Lib.hid (HB_e.out.ext hbz)
            replace HF_o := Lib.hid (HF_o.out.ext HB_o.out hbz)
            replace HB_o := Lib.hid (HB_o.out.ext hbz)
            replace HF_s := Lib.hid (HF_s.out.ext HB_s.out hbz)
            replace HB_s := Lib.hid (HB_s.out.ext hbz)
            replace HF_a := Lib.hid (HF_a.out.ext HB_a.out hbz)
            replace HB_a := Lib.hid (HB_a.out.ext hbz)
            replace H_m := Lib.hid (H_m.out.ext hbz)
            replace H_x := Lib.hid (H_x.out.ext hbz)
            replace H_n := Lib.hid (H_n.out.ext hbz)
            replace HW := Lib.hid (ext_trans HW.out hbz)
            clear c_s_0 c_s_1 c_a_0 c_a_1
            clear hbz
            go_wp2_with fail
            refine ((by have h := whole0 w11' (HT0.out.ext HW.out); rw [HQ.out.2] at h; exact h : Calls _ _ _ w11' (RtP w11' zq))).mono ?_
            rintro e w12' ⟨rfl, hbz⟩
            replace HB_t := Lib.hid (HB_t.out.ext hbz)
            replace HB_u := Lib.hid (HB_u.out.ext hbz)
            replace HB_v := Lib.hid (HB_v.out.ext hbz)
            replace HB_e := Lib.hid (HB_e.out.ext hbz)
            replace HF_o := Lib.hid (HF_o.out.ext HB_o.out hbz)
            replace HB_o := Lib.hid (HB_o.out.ext hbz)
            replace HF_s := Lib.hid (HF_s.out.ext HB_s.out hbz)
            replace HB_s := Lib.hid (HB_s.out.ext hbz)
            replace HF_a := Lib.hid (HF_a.out.ext HB_a.out hbz)
            replace HB_a := Lib.hid (HB_a.out.ext hbz)
            replace H_m := Lib.hid (H_m.out.ext hbz)
            replace H_x := Lib.hid (H_x.out.ext hbz)
            replace H_n := Lib.hid (H_n.out.ext hbz)
            replace HW := Lib.hid (ext_trans HW.out hbz)
            clear hbz
            have c_s_0 : w12'.cell? ⟨b_s, 0, none⟩ = some (.string (showN (sy))) := HB_s.out.2 0
            have c_s_1 : w12'.cell? ⟨b_s, 1, none⟩ = some (.string (showD (sy))) := HB_s.out.2 1
            have c_a_0 : w12'.cell? ⟨b_a, 0, none⟩ = some (.string (showN (a2))) := HB_a.out.2 0
            have c_a_1 : w12'.cell? ⟨b_a, 1, none⟩ = some (.string (showD (a2))) := HB_a.out.2 1
            have f_s_0 := HF_s.out 0
            have f_s_1 := HF_s.out 1
            have f_a_0 := HF_a.out 0
            have f_a_1 := HF_a.out 1
            go_upto_region 31 with (fail)
            obtain ⟨w13', hX⟩ : ∃ X, X = ((((w12'.setCell ⟨b_s, 0, none⟩ (.string (showN sn))).setCell ⟨b_s, 1, none⟩ (.string (showD sn))).setCell ⟨b_a, 0, none⟩ (.string (showN zq))).setCell ⟨b_a, 1, none⟩ (.string (showD zq))) := ⟨_, rfl⟩
            rw [← hX]
            have nB_t : Hid (Box w13' w.heap.size #[.int .i64 d, .int .i64 (bets : Int), .string (showN q), .string (showD q)]) := by rw [hX]; exact Lib.hid (boxn_other (boxn_other (boxn_other (boxn_other (HB_t.out) (show w.heap.size ≠ b_s by omega) (0) (.string (showN sn))) (show w.heap.size ≠ b_s by omega) (1) (.string (showD sn))) (show w.heap.size ≠ b_a by omega) (0) (.string (showN zq))) (show w.heap.size ≠ b_a by omega) (1) (.string (showD zq)))
            have nB_u : Hid (Box w13' (w.heap.size + 1) #[.string (showN (u)), .string (showD (u))]) := by rw [hX]; exact Lib.hid (boxn_other (boxn_other (boxn_other (boxn_other (HB_u.out) (show (w.heap.size + 1) ≠ b_s by omega) (0) (.string (showN sn))) (show (w.heap.size + 1) ≠ b_s by omega) (1) (.string (showD sn))) (show (w.heap.size + 1) ≠ b_a by omega) (0) (.string (showN zq))) (show (w.heap.size + 1) ≠ b_a by omega) (1) (.string (showD zq)))
            have nB_v : Hid (Box w13' (w.heap.size + 2) #[.string (showN (v)), .string (showD (v))]) := by rw [hX]; exact Lib.hid (boxn_other (boxn_other (boxn_other (boxn_other (HB_v.out) (show (w.heap.size + 2) ≠ b_s by omega) (0) (.string (showN sn))) (show (w.heap.size + 2) ≠ b_s by omega) (1) (.string (showD sn))) (show (w.heap.size + 2) ≠ b_a by omega) (0) (.string (showN zq))) (show (w.heap.size + 2) ≠ b_a by omega) (1) (.string (showD zq)))
            have nB_e : Hid (Box w13' (w.heap.size + 3) #[.string (showN (e)), .string (showD (e))]) := by rw [hX]; exact Lib.hid (boxn_other (boxn_other (boxn_other (boxn_other (HB_e.out) (show (w.heap.size + 3) ≠ b_s by omega) (0) (.string (showN sn))) (show (w.heap.size + 3) ≠ b_s by omega) (1) (.string (showD sn))) (show (w.heap.size + 3) ≠ b_a by omega) (0) (.string (showN zq))) (show (w.heap.size + 3) ≠ b_a by omega) (1) (.string (showD zq)))
            have nB_o : Hid (Box w13' (w.heap.size + 4) #[.string ⟨#[]⟩, .string ⟨#[]⟩]) := by rw [hX]; exact Lib.hid (boxn_other (boxn_other (boxn_other (boxn_other (HB_o.out) (show (w.heap.size + 4) ≠ b_s by omega) (0) (.string (showN sn))) (show (w.heap.size + 4) ≠ b_s by omega) (1) (.string (showD sn))) (show (w.heap.size + 4) ≠ b_a by omega) (0) (.string (showN zq))) (show (w.heap.size + 4) ≠ b_a by omega) (1) (.string (showD zq)))
            have nF_o : Hid (Fre w13' (w.heap.size + 4)) := by rw [hX]; exact Lib.hid (fun j => by simp only [World.frozen?_setCell]; exact HF_o.out j)
            have nB_s : Hid (Box w13' b_s #[.string (showN sn), .string (showD sn)]) := by rw [hX]; exact Lib.hid (boxn_other (boxn_other (boxn_cell (boxn_cell (HB_s.out) (j := 0) (by simp) (.string (showN sn))) (j := 1) (by simp) (.string (showD sn))) (show b_s ≠ b_a by omega) (0) (.string (showN zq))) (show b_s ≠ b_a by omega) (1) (.string (showD zq)))
            have nF_s : Hid (Fre w13' b_s) := by rw [hX]; exact Lib.hid (fun j => by simp only [World.frozen?_setCell]; exact HF_s.out j)
            have nB_a : Hid (Box w13' b_a #[.string (showN zq), .string (showD zq)]) := by rw [hX]; exact Lib.hid (boxn_cell (boxn_cell (boxn_other (boxn_other (HB_a.out) (show b_a ≠ b_s by omega) (0) (.string (showN sn))) (show b_a ≠ b_s by omega) (1) (.string (showD sn))) (j := 0) (by simp) (.string (showN zq))) (j := 1) (by simp) (.string (showD zq)))
            have nF_a : Hid (Fre w13' b_a) := by rw [hX]; exact Lib.hid (fun j => by simp only [World.frozen?_setCell]; exact HF_a.out j)
            have n_H_m : Hid (GB w13' b_m (KA n) Fk) := by rw [hX]; exact Lib.hid (((((H_m.out).other (p := ⟨b_s, 0, none⟩) (show b_m ≠ b_s by omega) (.string (showN sn))).other (p := ⟨b_s, 1, none⟩) (show b_m ≠ b_s by omega) (.string (showD sn))).other (p := ⟨b_a, 0, none⟩) (show b_m ≠ b_a by omega) (.string (showN zq))).other (p := ⟨b_a, 1, none⟩) (show b_m ≠ b_a by omega) (.string (showD zq)))
            have n_H_x : Hid (EB w13' b_x (KA n) E) := by rw [hX]; exact Lib.hid (((((H_x.out).other (p := ⟨b_s, 0, none⟩) (show b_x ≠ b_s by omega) (.string (showN sn))).other (p := ⟨b_s, 1, none⟩) (show b_x ≠ b_s by omega) (.string (showD sn))).other (p := ⟨b_a, 0, none⟩) (show b_x ≠ b_a by omega) (.string (showN zq))).other (p := ⟨b_a, 1, none⟩) (show b_x ≠ b_a by omega) (.string (showD zq)))
            have n_H_n : Hid (GB w13' b_n (KA n) (mixF n x y Nx Fk)) := by rw [hX]; exact Lib.hid (((((H_n.out).other (p := ⟨b_s, 0, none⟩) (show b_n ≠ b_s by omega) (.string (showN sn))).other (p := ⟨b_s, 1, none⟩) (show b_n ≠ b_s by omega) (.string (showD sn))).other (p := ⟨b_a, 0, none⟩) (show b_n ≠ b_a by omega) (.string (showN zq))).other (p := ⟨b_a, 1, none⟩) (show b_n ≠ b_a by omega) (.string (showD zq)))
            have nW : Hid (Below w.heap.size w w13') := by rw [hX]; exact Lib.hid (((((HW.out).setCell (p := ⟨b_s, 0, none⟩) (show w.heap.size ≤ b_s by omega) (.string (showN sn))).setCell (p := ⟨b_s, 1, none⟩) (show w.heap.size ≤ b_s by omega) (.string (showD sn))).setCell (p := ⟨b_a, 0, none⟩) (show w.heap.size ≤ b_a by omega) (.string (showN zq))).setCell (p := ⟨b_a, 1, none⟩) (show w.heap.size ≤ b_a by omega) (.string (showD zq)))
            clear c_s_0 c_s_1 c_a_0 c_a_1 f_s_0 f_s_1 f_a_0 f_a_1
            clear hX HB_t HB_u HB_v HB_e HB_o HF_o HB_s HF_s HB_a HF_a HW H_m H_x H_n
            have HB_t := nB_t; clear nB_t
            have HB_u := nB_u; clear nB_u
            have HB_v := nB_v; clear nB_v
            have HB_e := nB_e; clear nB_e
            have HB_o := nB_o; clear nB_o; have HF_o := nF_o; clear nF_o
            have HB_s := nB_s; clear nB_s; have HF_s := nF_s; clear nF_s
            have HB_a := nB_a; clear nB_a; have HF_a := nF_a; clear nF_a
            have H_m := n_H_m; clear n_H_m
            have H_x := n_H_x; clear n_H_x
            have H_n := n_H_n; clear n_H_n
            have HW := nW; clear nW
            have c_a_0 : w13'.cell? ⟨b_a, 0, none⟩ = some (.string (showN zq)) := HB_a.out.2 0
            have c_a_1 : w13'.cell? ⟨b_a, 1, none⟩ = some (.string (showD zq)) := HB_a.out.2 1
            refine Grow.wp_region_grow 5 [TP.eq (.int .i64 (x : Int)), TP.eq (.int .i64 (y : Int)), TP.eq (rtV zq), TP.eq (.pointer (some ⟨b_n, x * 18, none⟩)), TP.eq (.pointer (some ⟨b_n, x * 18 + y * 2, none⟩))] [[], [], [], [0], [3, 1]] (by kernel_rfl) (by kernel_rfl) ⟨?o0z, ?o1z, ?o2z, ?o3z, ?o4z, trivial⟩ ?_
            case o0z =>
             intro w' hb
             show wpList _ _ _ _ _ _
             go_wp2
             exact ⟨rfl, Below.refl _ _, rfl⟩
            case o1z =>
             intro w' hb
             show wpList _ _ _ _ _ _
             go_wp2
             exact ⟨rfl, Below.refl _ _, rfl⟩
            case o2z =>
             intro w' hb
             have c_a_0' := zzc hb c_a_0
             have c_a_1' := zzc hb c_a_1
             show wpList _ _ _ _ _ _
             go_wp2
             exact ⟨rfl, Below.refl _ _, rfl⟩
            case o3z =>
             intro w' hb v1 hv1
             obtain rfl : v1 = _ := hv1
             show wpList _ _ _ _ _ _
             simp only [Grow.dstOf, zz1, zz3, zz4, Act.put, zz5, zz6, zz7]
             go_wp2
             exact ⟨rfl, Below.refl _ _, rfl⟩
            case o4z =>
             intro w' hb v1 hv1 v2 hv2
             obtain rfl : v1 = _ := hv1
             obtain rfl : v2 = _ := hv2
             show wpList _ _ _ _ _ _
             simp only [Grow.dstOf, zz1, zz2, zz3, zz4, Act.put, zz5, zz6, zz7]
             go_wp2
             exact ⟨rfl, Below.refl _ _, rfl⟩
            intro w14' hbz u0 hu0 u1 hu1 u2 hu2 u3 hu3 u4 hu4
            obtain rfl : u2 = _ := hu2
            obtain rfl : u4 = _ := hu4
            clear hu0 hu1 hu3
            replace HB_t := Lib.hid (HB_t.out.ext hbz)
            replace HB_u := Lib.hid (HB_u.out.ext hbz)
            replace HB_v := Lib.hid (HB_v.out.ext hbz)
            replace HB_e := Lib.hid (HB_e.out.ext hbz)
            replace HF_o := Lib.hid (HF_o.out.ext HB_o.out hbz)
            replace HB_o := Lib.hid (HB_o.out.ext hbz)
            replace HF_s := Lib.hid (HF_s.out.ext HB_s.out hbz)
            replace HB_s := Lib.hid (HB_s.out.ext hbz)
            replace HF_a := Lib.hid (HF_a.out.ext HB_a.out hbz)
            replace HB_a := Lib.hid (HB_a.out.ext hbz)
            replace H_m := Lib.hid (H_m.out.ext hbz)
            replace H_x := Lib.hid (H_x.out.ext hbz)
            replace H_n := Lib.hid (H_n.out.ext hbz)
            replace HW := Lib.hid (ext_trans HW.out hbz)
            clear c_a_0 c_a_1
            clear hbz
            show wpList _ _ _ _ _ _
            simp only [Act.put, zz5, zz6, zz7]
            obtain ⟨s9, t9, r0, r1, f0, f1⟩ := H_n.out.slot hx9 hy9
            go_upto_region 32 with (fail)
            obtain ⟨w15', hX⟩ : ∃ X, X = ((w14'.setCell ⟨b_n, x * 18 + y * 2, none⟩ (.string (showN zq))).setCell ⟨b_n, x * 18 + y * 2 + 1, none⟩ (.string (showD zq))) := ⟨_, rfl⟩
            rw [← hX]
            have nB_t : Hid (Box w15' w.heap.size #[.int .i64 d, .int .i64 (bets : Int), .string (showN q), .string (showD q)]) := by rw [hX]; exact Lib.hid (boxn_other (boxn_other (HB_t.out) (show w.heap.size ≠ b_n by omega) (x * 18 + y * 2) (.string (showN zq))) (show w.heap.size ≠ b_n by omega) (x * 18 + y * 2 + 1) (.string (showD zq)))
            have nB_u : Hid (Box w15' (w.heap.size + 1) #[.string (showN (u)), .string (showD (u))]) := by rw [hX]; exact Lib.hid (boxn_other (boxn_other (HB_u.out) (show (w.heap.size + 1) ≠ b_n by omega) (x * 18 + y * 2) (.string (showN zq))) (show (w.heap.size + 1) ≠ b_n by omega) (x * 18 + y * 2 + 1) (.string (showD zq)))
            have nB_v : Hid (Box w15' (w.heap.size + 2) #[.string (showN (v)), .string (showD (v))]) := by rw [hX]; exact Lib.hid (boxn_other (boxn_other (HB_v.out) (show (w.heap.size + 2) ≠ b_n by omega) (x * 18 + y * 2) (.string (showN zq))) (show (w.heap.size + 2) ≠ b_n by omega) (x * 18 + y * 2 + 1) (.string (showD zq)))
            have nB_e : Hid (Box w15' (w.heap.size + 3) #[.string (showN (e)), .string (showD (e))]) := by rw [hX]; exact Lib.hid (boxn_other (boxn_other (HB_e.out) (show (w.heap.size + 3) ≠ b_n by omega) (x * 18 + y * 2) (.string (showN zq))) (show (w.heap.size + 3) ≠ b_n by omega) (x * 18 + y * 2 + 1) (.string (showD zq)))
            have nB_o : Hid (Box w15' (w.heap.size + 4) #[.string ⟨#[]⟩, .string ⟨#[]⟩]) := by rw [hX]; exact Lib.hid (boxn_other (boxn_other (HB_o.out) (show (w.heap.size + 4) ≠ b_n by omega) (x * 18 + y * 2) (.string (showN zq))) (show (w.heap.size + 4) ≠ b_n by omega) (x * 18 + y * 2 + 1) (.string (showD zq)))
            have nF_o : Hid (Fre w15' (w.heap.size + 4)) := by rw [hX]; exact Lib.hid (fun j => by simp only [World.frozen?_setCell]; exact HF_o.out j)
            have nB_s : Hid (Box w15' b_s #[.string (showN sn), .string (showD sn)]) := by rw [hX]; exact Lib.hid (boxn_other (boxn_other (HB_s.out) (show b_s ≠ b_n by omega) (x * 18 + y * 2) (.string (showN zq))) (show b_s ≠ b_n by omega) (x * 18 + y * 2 + 1) (.string (showD zq)))
            have nF_s : Hid (Fre w15' b_s) := by rw [hX]; exact Lib.hid (fun j => by simp only [World.frozen?_setCell]; exact HF_s.out j)
            have nB_a : Hid (Box w15' b_a #[.string (showN zq), .string (showD zq)]) := by rw [hX]; exact Lib.hid (boxn_other (boxn_other (HB_a.out) (show b_a ≠ b_n by omega) (x * 18 + y * 2) (.string (showN zq))) (show b_a ≠ b_n by omega) (x * 18 + y * 2 + 1) (.string (showD zq)))
            have nF_a : Hid (Fre w15' b_a) := by rw [hX]; exact Lib.hid (fun j => by simp only [World.frozen?_setCell]; exact HF_a.out j)
            have n_H_m : Hid (GB w15' b_m (KA n) Fk) := by rw [hX]; exact Lib.hid (((H_m.out).other (p := ⟨b_n, x * 18 + y * 2, none⟩) (show b_m ≠ b_n by omega) (.string (showN zq))).other (p := ⟨b_n, x * 18 + y * 2 + 1, none⟩) (show b_m ≠ b_n by omega) (.string (showD zq)))
            have n_H_x : Hid (EB w15' b_x (KA n) E) := by rw [hX]; exact Lib.hid (((H_x.out).other (p := ⟨b_n, x * 18 + y * 2, none⟩) (show b_x ≠ b_n by omega) (.string (showN zq))).other (p := ⟨b_n, x * 18 + y * 2 + 1, none⟩) (show b_x ≠ b_n by omega) (.string (showD zq)))
            have n_H_n : Hid (GB w15' b_n (KA n) (mixF n x (y + 1) Nx Fk)) := by rw [hX]; exact Lib.hid (H_n.out.set hx9 hy9 zq (fun u v _ _ h => Or.inr h) (fun u v _ _ _ => by rw [mix_set, HNV.out]))
            have nW : Hid (Below w.heap.size w w15') := by rw [hX]; exact Lib.hid (((HW.out).setCell (p := ⟨b_n, x * 18 + y * 2, none⟩) (show w.heap.size ≤ b_n by omega) (.string (showN zq))).setCell (p := ⟨b_n, x * 18 + y * 2 + 1, none⟩) (show w.heap.size ≤ b_n by omega) (.string (showD zq)))
            clear r0 r1 f0 f1
            clear hX HB_t HB_u HB_v HB_e HB_o HF_o HB_s HF_s HB_a HF_a HW H_m H_x H_n
            have HB_t := nB_t; clear nB_t
            have HB_u := nB_u; clear nB_u
            have HB_v := nB_v; clear nB_v
            have HB_e := nB_e; clear nB_e
            have HB_o := nB_o; clear nB_o; have HF_o := nF_o; clear nF_o
            have HB_s := nB_s; clear nB_s; have HF_s := nF_s; clear nF_s
            have HB_a := nB_a; clear nB_a; have HF_a := nF_a; clear nF_a
            have H_m := n_H_m; clear n_H_m
            have H_x := n_H_x; clear n_H_x
            have H_n := n_H_n; clear n_H_n
            have HW := nW; clear nW
            clear HB_a HF_a
            go_wp2
            go_roundw
            case rel => exact ⟨y + 1, sn, by omega, by go_num, HSN, HB_t.out, HB_u.out, HB_v.out, HB_e.out, HB_o.out, HF_o.out, HB_s.out, HF_s.out, H_m.out, H_x.out, H_n.out, HW.out⟩
            case measure => simp [intOf]; omega
        ·have hyn : y = n + 1 := by omega
         subst hyn
         have hy2 : ¬ ((n : Int) + 1 < (n : Int) + 1) := by omega
         have HSN : Hid (sy = S0 + gridS Gk n (x + 1)) := Lib.hid (by rw [gridS_step, ← Rat.add_assoc]; exact HSY.out)
         replace H_n : Hid (GB X5 b_n (KA n) (mixF n (x + 1) 0 Nx Fk)) := Lib.hid (H_n.out.turn fun u v _ _ h => ⟨h, mix_row h⟩)
         go_wp2
         go_roundw
         case rel => exact ⟨x + 1, sy, by omega, by go_num, HSN, HB_t.out, HB_u.out, HB_v.out, HB_e.out, HB_o.out, HF_o.out, HB_s.out, HF_s.out, H_m.out, H_x.out, H_n.out, HW.out⟩
         case measure => simp [intOf]; omega
      ·have hxn : x = n + 1 := by omega
       subst hxn
       have hx2 : ¬ ((n : Int) + 1 < (n : Int) + 1) := by omega
       have HSN : Hid (sx = S (k + 1)) := Lib.hid (by rw [HSX.out]; exact HR0.out.last)
       obtain ⟨A, hA, hrow, _⟩ := H_n.out.read
       have hsz := hA.size
       have HRO := Lib.hid (And.intro hrow hsz)
       have hA2 : GA A (KA n) (C (k + 1)) := ⟨hA.size, hA.str, fun x y hx hy hk => by rw [HNN.out (x, y) hk.1 hk.2]; have h := hA.at_ x y hx hy hk; rw [mix_done hk] at h; exact h⟩
       have HG := Lib.hid (H_m.out.write hA2).2
       obtain ⟨B, hrB, hB⟩ := H_m.out
       have HRB := Lib.hid (And.intro hrB hB.size)
       have HST := Lib.hid hA.str.one
       clear hA hA2 hrow hsz hrB hB
       go_upto_region 35 with (fail)
       refine wp_load_row _ _ rfl b_n rfl _ A _ _ HRO.out.1 und_G rfl (by rw [size_G, HRO.out.2]) ?_
       have hsc := store_cells (P := Tryz.prog) (ty := 194) HRB.out.1 (by rw [size_G, HRO.out.2]) (by rw [HRB.out.2, HRO.out.2]) HST.out
       have hsz := HRO.out.2
       first | (rename_i K1 k1 K2 k2; refine k2 _ _ ?_) | (rename_i K1 k1; refine k1 _ _ ?_)
       go_upto_region 35 with (fail)
       clear HRO HRB HST hsc hsz
       obtain ⟨w9', hX⟩ : ∃ X, X = X4.setRow b_m A := ⟨_, rfl⟩
       rw [← hX]
       have nB_t : Hid (Box w9' w.heap.size #[.int .i64 d, .int .i64 (bets : Int), .string (showN q), .string (showD q)]) := by rw [hX]; exact Lib.hid (box_row HB_t.out (show w.heap.size ≠ b_m by omega) _)
       have nB_u : Hid (Box w9' (w.heap.size + 1) #[.string (showN (u)), .string (showD (u))]) := by rw [hX]; exact Lib.hid (box_row HB_u.out (show (w.heap.size + 1) ≠ b_m by omega) _)
       have nB_v : Hid (Box w9' (w.heap.size + 2) #[.string (showN (v)), .string (showD (v))]) := by rw [hX]; exact Lib.hid (box_row HB_v.out (show (w.heap.size + 2) ≠ b_m by omega) _)
       have nB_e : Hid (Box w9' (w.heap.size + 3) #[.string (showN (e)), .string (showD (e))]) := by rw [hX]; exact Lib.hid (box_row HB_e.out (show (w.heap.size + 3) ≠ b_m by omega) _)
       have nB_o : Hid (Box w9' (w.heap.size + 4) #[.string ⟨#[]⟩, .string ⟨#[]⟩]) := by rw [hX]; exact Lib.hid (box_row HB_o.out (show (w.heap.size + 4) ≠ b_m by omega) _)
       have nF_o : Hid (Fre w9' (w.heap.size + 4)) := by rw [hX]; exact Lib.hid (fre_row HF_o.out (show (w.heap.size + 4) ≠ b_m by omega) _)
       have nB_s : Hid (Box w9' b_s #[.string (showN (sx)), .string (showD (sx))]) := by rw [hX]; exact Lib.hid (box_row HB_s.out (show b_s ≠ b_m by omega) _)
       have nF_s : Hid (Fre w9' b_s) := by rw [hX]; exact Lib.hid (fre_row HF_s.out (show b_s ≠ b_m by omega) _)
       have n_m : Hid (GB w9' b_m (KA n) (C (k + 1))) := by rw [hX]; exact HG
       have n_x : Hid (EB w9' b_x (KA n) E) := by rw [hX]; exact Lib.hid (H_x.out.row_other (show b_x ≠ b_m by omega) _)
       have nW : Hid (Below w.heap.size w w9') := by rw [hX]; exact Lib.hid (below_setRow HW.out (show w.heap.size ≤ b_m by omega) _)
       clear hX HG H_m H_x H_n HW HB_t HB_u HB_v HB_e HB_o HF_o HB_s HF_s
       have HB_t := nB_t
       have HB_u := nB_u
       have HB_v := nB_v
       have HB_e := nB_e
       have HB_o := nB_o; have HF_o := nF_o
       have HB_s := nB_s; have HF_s := nF_s
       have H_m := n_m
       have H_x := n_x
       have HW := nW
       go_wp2
       go_roundw
       case rel => exact ⟨k + 1, sx, by omega, by go_num, HSN, HB_t.out, HB_u.out, HB_v.out, HB_e.out, HB_o.out, HF_o.out, HB_s.out, HF_s.out, H_m.out, H_x.out, HW.out⟩
       case measure => simp [intOf]; omega
    ·have hkn : k = n := by omega
     subst hkn
     have hk2 : ¬ ((k : Int) < (k : Int)) := by omega
     have c_s_0 : X3.cell? ⟨b_s, 0, none⟩ = some (.string (showN (sq))) := HB_s.out.2 0
     have c_s_1 : X3.cell? ⟨b_s, 1, none⟩ = some (.string (showD (sq))) := HB_s.out.2 1
     have c_o_0 : X3.cell? ⟨(w.heap.size + 4), 0, none⟩ = some (.string ⟨#[]⟩) := HB_o.out.2 0
     have c_o_1 : X3.cell? ⟨(w.heap.size + 4), 1, none⟩ = some (.string ⟨#[]⟩) := HB_o.out.2 1
     have f_o_0 := HF_o.out 0
     have f_o_1 := HF_o.out 1
     have HV := Lib.hid (HRES.out.trans HSK.out.symm)
     have HRR := Lib.hid (res2s (.string (showN sq)) (.string (showD sq)) HB_o.out HW.out (show w.heap.size ≤ (w.heap.size + 4) by omega))
     obtain ⟨hbF, z0, z1⟩ := id HRR.out
     clear hbF
     go_wp2
     exact bodyPost_ret (v := .agg #[.string (showN sq), .string (showD sq)]) (by simp [results, Tryz.results118, go_sem, z0, z1]) rfl ⟨by rw [HV.out], HRR.out.1⟩
end Nt
end Go.Proofs.YtilolnjbpokdnaaGreatDoor
