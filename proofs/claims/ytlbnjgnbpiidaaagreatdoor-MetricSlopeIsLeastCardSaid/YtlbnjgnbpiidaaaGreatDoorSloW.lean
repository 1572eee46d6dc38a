/- The walk of MetricSlopeIsLeast. Printed by gen_lawslo.py. -/
import Derived.Test.YtlbnjgnbpiidaaaGreatDoorB800
import Derived.Test.YtlbnjgnbpiidaaaGreatDoorB801
import Derived.Test.YtlbnjgnbpiidaaaGreatDoorProg
import Derived.Test.YtlbnjgnbpiidaaaGreatDoorB802
import Derived.Test.YtlbnjgnbpiidaaaGreatDoorB803
import Derived.Test.YtlbnjgnbpiidaaaGreatDoorB804
import Derived.Test.YtlbnjgnbpiidaaaGreatDoorB805
import Derived.Test.YtlbnjgnbpiidaaaGreatDoorB806
import Derived.Test.YtlbnjgnbpiidaaaGreatDoorB807
import Derived.Test.YtlbnjgnbpiidaaaGreatDoorB808
import Derived.Test.YtlbnjgnbpiidaaaGreatDoorB809
import Derived.Test.YtlbnjgnbpiidaaaGreatDoorB810
import Derived.Test.YtlbnjgnbpiidaaaGreatDoorB811
import Derived.Test.YtlbnjgnbpiidaaaGreatDoorB812
import Derived.Test.YtlbnjgnbpiidaaaGreatDoorB813
import Derived.Test.YtlbnjgnbpiidaaaGreatDoorB837
import Derived.Test.YtlbnjgnbpiidaaaGreatDoorB848
import Derived.Test.YtlbnjgnbpiidaaaGreatDoorB836
import Derived.Test.YtlbnjgnbpiidaaaGreatDoorB814
import Derived.Test.YtlbnjgnbpiidaaaGreatDoorB815
import Derived.Test.YtlbnjgnbpiidaaaGreatDoorB816
import Derived.Test.YtlbnjgnbpiidaaaGreatDoorB817
import Derived.Test.YtlbnjgnbpiidaaaGreatDoorB818
import Derived.Test.YtlbnjgnbpiidaaaGreatDoorB819
import Derived.Test.YtlbnjgnbpiidaaaGreatDoorB820
import Derived.Test.YtlbnjgnbpiidaaaGreatDoorShelf
import Derived.Test.YtlbnjgnbpiidaaaGreatDoorB821
import Derived.Test.YtlbnjgnbpiidaaaGreatDoorB822
import Derived.Test.YtlbnjgnbpiidaaaGreatDoorB823
import Derived.Test.YtlbnjgnbpiidaaaGreatDoorB824
import Derived.Test.YtlbnjgnbpiidaaaGreatDoorB825
import Derived.Test.YtlbnjgnbpiidaaaGreatDoorB826
import Derived.Test.YtlbnjgnbpiidaaaGreatDoorB827
import Derived.Test.YtlbnjgnbpiidaaaGreatDoorB828
import Derived.Test.YtlbnjgnbpiidaaaGreatDoorB829
import Derived.Test.YtlbnjgnbpiidaaaGreatDoorB830
import Derived.Test.YtlbnjgnbpiidaaaGreatDoorB831
import Derived.Test.YtlbnjgnbpiidaaaGreatDoorB832
import Derived.Test.YtlbnjgnbpiidaaaGreatDoorB833
import Derived.Test.YtlbnjgnbpiidaaaGreatDoorB835
import Derived.Test.YtlbnjgnbpiidaaaGreatDoorGrowF
import Derived.Test.YtlbnjgnbpiidaaaGreatDoorAdjC
import Derived.Test.YtlbnjgnbpiidaaaGreatDoorB834
import Derived.Test.YtlbnjgnbpiidaaaGreatDoorB838
import Derived.Test.YtlbnjgnbpiidaaaGreatDoorB843
import Derived.Test.YtlbnjgnbpiidaaaGreatDoorB845
import Derived.Test.YtlbnjgnbpiidaaaGreatDoorRAdjC
import Derived.Test.YtlbnjgnbpiidaaaGreatDoorSloR
import Derived.Test.YtlbnjgnbpiidaaaGreatDoorB840
import Derived.Laws.StructEq
namespace Go.Proofs.YtlbnjgnbpiidaaaGreatDoor
open Go.RowKit
namespace Nt
open _root_.Go.Proofs.YtlbnjgnbpiidaaaGreatDoor.Nm (tl_lit rF rQ showN showD Fits show_size cutS cutS_size cutB cut_show cmpQ RT rtOk trimPrefix_at Ln QL QF QS Q5 R5 shR mrA mr_info NoW noW_all BF cs_other wp_rows1 wp_rows2 wp_rows3 wp_rows4 smF smL smL_step sm_five momF posB posB1 zerB dfA dfB dfC df_ln ln_n n_ne fits_int i64_ten BPost FPost spA spB spC sp_ln atF at_parts mom_parts vrQ rtC fq fr fr_get R5.ok_at rat_neg MV MV.arm mnL armL armsF armsF_step fewL raF ra_parts ra_arm Arm aB aC aB_take aC_take aB_ok aC_ok ApOk ArmsOk arms_ok slQ sl_ln rsQ aS aS_ok aS_y aY aN aN_ok aN_take EV evL ajV ajE mdQ ajL ajsL et_info EO EO.ext EO.push AjPost AjPost.bad adM fewL_no n_ne aA aA_app rsL rs_sum rsL_app chL ch_sum chL_app slope_least adj_sum ra_two spreadM_at slopeM_at adjM_at mdQ posB Arm.Ok TP.row rtN rtD nF rtN_0 rtD_0 rtN_no rtD_no nF_no meQ veQ RqPost S3Post mom_ql at_ql)

set_option maxRecDepth 100000 in
set_option maxHeartbeats 16000000 in
theorem lawSlo_at (l : List MV) (a : Option Addr) (c : Nat) (w : World) (hs : Sl w (.slice a l.length c) l.length (l.flatMap mnL)) (hok : ∀ m ∈ l, m.r.ok) (ht : Tab w) (num den : Int) :
  Calls Tryz.prog 4 #[.slice a l.length c, .int .i64 num, .int .i64 den] w fun e w' => e = .returned (.bool true) ∧ Below w.heap.size w w' := by
 have HS := Lib.hid hs
 have HKO := Lib.hid hok
 clear hs hok
 obtain ⟨p, hp⟩ : ∃ z, num.tmod 1000 = z := ⟨_, rfl⟩
 have hpb : -1000 < p ∧ p < 1000 := by rw [← hp]; exact ⟨Int.lt_tmod_of_pos _ (by decide), Int.tmod_lt_of_pos _ (by decide)⟩
 obtain ⟨d, hd⟩ : ∃ z, den.tmod 1000 = z := ⟨_, rfl⟩
 have hdb : -1000 < d ∧ d < 1000 := by rw [← hd]; exact ⟨Int.lt_tmod_of_pos _ (by decide), Int.tmod_lt_of_pos _ (by decide)⟩
 obtain ⟨d2, hd2⟩ : ∃ z, (d + 1000).tmod 1000 = z := ⟨_, rfl⟩
 have hd2b : 0 ≤ d2 ∧ d2 < 1000 := by rw [← hd2]; exact ⟨Int.tmod_nonneg _ (by omega), Int.tmod_lt_of_pos _ (by decide)⟩
 have hw1 : IntKind.i64.wrap p = p := IntWalk.i64_in _ (by constructor <;> omega)
 have hw2 : IntKind.i64.wrap d = d := IntWalk.i64_in _ (by constructor <;> omega)
 have hw3 : IntKind.i64.wrap (d + 1000) = d + 1000 := IntWalk.i64_in _ (by constructor <;> omega)
 have hw4 : IntKind.i64.wrap d2 = d2 := IntWalk.i64_in _ (by constructor <;> omega)
 obtain ⟨e, he⟩ : ∃ z, 1 + d2 = z := ⟨_, rfl⟩
 have heb : 1 ≤ e ∧ e ≤ 1000 := by omega
 have hw5 : IntKind.i64.wrap (1 + d2) = e := by rw [he]; exact IntWalk.i64_in _ (by constructor <;> omega)
 obtain ⟨pq, h9⟩ : ∃ z : Rat, ((p : Int) : Rat) = z := ⟨_, rfl⟩
 have E_pq := Lib.hid h9
 have N_pq : Hid (Ln 3 0 pq) := Lib.hid (by rw [← h9]; exact (Ln.int (z := p) (a := 3) (by omega)).mono (by omega) (by omega))
 clear h9
 obtain ⟨eq, h9⟩ : ∃ z : Rat, ((e : Int) : Rat) = z := ⟨_, rfl⟩
 have E_eq := Lib.hid h9
 have N_eq : Hid (Ln 3 0 eq) := Lib.hid (by rw [← h9]; exact (Ln.int (z := e) (a := 3) (by omega)).mono (by omega) (by omega))
 clear h9
 have HEZ : Hid (eq ≠ 0) := Lib.hid (by rw [← E_eq.out]; exact n_ne (by omega))
 obtain ⟨ot, h9⟩ : ∃ z : Rat, pq / eq = z := ⟨_, rfl⟩
 have E_ot := Lib.hid h9
 have N_ot : Hid (Ln 3 3 ot) := Lib.hid (by rw [← h9]; exact (Ln.div N_pq.out N_eq.out HEZ.out).mono (by omega) (by omega))
 clear h9
 go_enter Tryz.func4, Tryz.ntmps4
 have HT0 := Lib.hid ht
 clear ht
 have HW : Hid (Below w.heap.size w w) := Lib.hid (Below.refl _ _)
 go_wp2_with fail
 refine (awake8_at w).mono ?_
 rintro e w1' ⟨rfl, hbz⟩
 replace HW := Lib.hid (ext_trans HW.out hbz)
 clear hbz
 go_wp2_with fail
 refine (slopeM_at l a c w1' (HS.out.ext HW.out) HKO.out).mono ?_
 rintro e w2' ⟨rfl, hbz⟩
 replace HW := Lib.hid (ext_trans HW.out hbz)
 clear hbz
 by_cases hz : raF 1 l = 0
 ·have hne2 : (raF 1 l != 0) = false := by simp [hz]
  have HZ := Lib.hid hz
  rw [hz]
  simp only [rtN_0, rtD_0]
  clear hz
  have HAO := Lib.hid (arms_ok (Int.le_refl 1) HZ.out)
  have HLA : Hid ((armL l).length = l.length) := Lib.hid (by unfold armL; rw [List.length_map])
  obtain ⟨sl, h9⟩ : ∃ z : Rat, slQ (armL l) = z := ⟨_, rfl⟩
  have E_sl := Lib.hid h9
  have N_sl : Hid (Ln 422 422 sl) := Lib.hid (by rw [← h9]; exact (sl_ln HAO.out).mono (by omega) (by omega))
  clear h9
  rw [E_sl.out]
  go_upto_region 4 with (fail)
  refine wp_rows1 fun w3' hbz hR0 => ?_
  have le_a : w.heap.size ≤ w2'.heap.size := HW.out.size
  replace HW := Lib.hid (ext_trans HW.out hbz)
  clear hbz
  have HR_a : Hid (RH w3' w2'.heap.size #[.string (showN sl), .string (showD sl)] 24) := Lib.hid hR0
  clear hR0
  generalize w2'.heap.size = b_a at *
  -- region 6
  go_wp2_with fail
  refine (whole_z p pq E_pq.out (by omega) (by omega) w3' (HT0.out.ext HW.out)).mono ?_
  rintro e w4' ⟨rfl, hbz⟩
  replace HR_a := Lib.hid (HR_a.out.ext hbz)
  replace HW := Lib.hid (ext_trans HW.out hbz)
  clear hbz
  go_wp2_with fail
  refine (whole_z e eq E_eq.out (by omega) (by omega) w4' (HT0.out.ext HW.out)).mono ?_
  rintro e w5' ⟨rfl, hbz⟩
  replace HR_a := Lib.hid (HR_a.out.ext hbz)
  replace HW := Lib.hid (ext_trans HW.out hbz)
  clear hbz
  go_wp2_with fail
  refine (over_is pq eq ot E_ot.out (N_pq.out.fits (by omega) (by omega)) (N_eq.out.fits (by omega) (by omega)) HEZ.out (N_ot.out.fits (by omega) (by omega)) w5' (HT0.out.ext HW.out)).mono ?_
  rintro e w6' ⟨rfl, hbz⟩
  replace HR_a := Lib.hid (HR_a.out.ext hbz)
  replace HW := Lib.hid (ext_trans HW.out hbz)
  clear hbz
  go_upto_region 7 with (fail)
  refine wp_rows1 fun w7' hbz hR0 => ?_
  have lt_a_b : b_a < w6'.heap.size := HR_a.out.lt
  have le_b : w.heap.size ≤ w6'.heap.size := HW.out.size
  replace HR_a := Lib.hid (HR_a.out.ext hbz)
  replace HW := Lib.hid (ext_trans HW.out hbz)
  clear hbz
  have HR_b : Hid (RH w7' w6'.heap.size #[.string (showN ot), .string (showD ot)] 24) := Lib.hid hR0
  clear hR0
  generalize w6'.heap.size = b_b at *
  obtain ⟨ra, hra⟩ : ∃ z, rsL sl (armL l) = z := ⟨_, rfl⟩
  obtain ⟨rb, hrb⟩ : ∃ z, rsL ot (armL l) = z := ⟨_, rfl⟩
  have N_ra : Hid (Ln 2500 1700 ra) := Lib.hid (by have h := rsL_ln HAO.out (s := sl) (N_sl.out.mono (by omega) (by omega)) (Nat.le_refl _); rw [List.take_length, hra] at h; exact h)
  have N_rb : Hid (Ln 2500 1700 rb) := Lib.hid (by have h := rsL_ln HAO.out (s := ot) (N_ot.out.mono (by omega) (by omega)) (Nat.le_refl _); rw [List.take_length, hrb] at h; exact h)
  have HLS : Hid (decide (rb < ra) = false) := Lib.hid (decide_eq_false (by rw [← hra, ← hrb, ← E_sl.out]; exact slope_least (ra_ok HZ.out) ot))
  have E_ra := Lib.hid hra
  have E_rb := Lib.hid hrb
  clear hra hrb
  obtain ⟨c_a_0, c_a_1⟩ := zs2 HR_a.out
  obtain ⟨c_b_0, c_b_1⟩ := zs2 HR_b.out
  go_wp2_with fail
  refine (rest_at l a c w7' (HS.out.ext HW.out) HKO.out (HT0.out.ext HW.out) HZ.out sl (N_sl.out.mono (by omega) (by omega))).mono ?_
  rintro e w8' ⟨rfl, hbz⟩
  rw [E_ra.out]
  replace HR_a := Lib.hid (HR_a.out.ext hbz)
  replace HR_b := Lib.hid (HR_b.out.ext hbz)
  replace HW := Lib.hid (ext_trans HW.out hbz)
  clear c_a_0 c_a_1 c_b_0 c_b_1
  clear hbz
  go_upto_region 8 with (fail)
  refine wp_rows1 fun w9' hbz hR0 => ?_
  have lt_a_p : b_a < w8'.heap.size := HR_a.out.lt
  have lt_b_p : b_b < w8'.heap.size := HR_b.out.lt
  have le_p : w.heap.size ≤ w8'.heap.size := HW.out.size
  replace HR_a := Lib.hid (HR_a.out.ext hbz)
  replace HR_b := Lib.hid (HR_b.out.ext hbz)
  replace HW := Lib.hid (ext_trans HW.out hbz)
  clear hbz
  have HR_p : Hid (RH w9' w8'.heap.size #[.string (showN ra), .string (showD ra)] 24) := Lib.hid hR0
  clear hR0
  generalize w8'.heap.size = b_p at *
  obtain ⟨c_b_0, c_b_1⟩ := zs2 HR_b.out
  go_wp2_with fail
  refine (rest_at l a c w9' (HS.out.ext HW.out) HKO.out (HT0.out.ext HW.out) HZ.out ot (N_ot.out.mono (by omega) (by omega))).mono ?_
  rintro e w10' ⟨rfl, hbz⟩
  rw [E_rb.out]
  replace HR_a := Lib.hid (HR_a.out.ext hbz)
  replace HR_b := Lib.hid (HR_b.out.ext hbz)
  replace HR_p := Lib.hid (HR_p.out.ext hbz)
  replace HW := Lib.hid (ext_trans HW.out hbz)
  clear c_b_0 c_b_1
  clear hbz
  go_upto_region 9 with (fail)
  refine wp_rows1 fun w11' hbz hR0 => ?_
  have lt_a_q : b_a < w10'.heap.size := HR_a.out.lt
  have lt_b_q : b_b < w10'.heap.size := HR_b.out.lt
  have lt_p_q : b_p < w10'.heap.size := HR_p.out.lt
  have le_q : w.heap.size ≤ w10'.heap.size := HW.out.size
  replace HR_a := Lib.hid (HR_a.out.ext hbz)
  replace HR_b := Lib.hid (HR_b.out.ext hbz)
  replace HR_p := Lib.hid (HR_p.out.ext hbz)
  replace HW := Lib.hid (ext_trans HW.out hbz)
  clear hbz
  have HR_q : Hid (RH w11' w10'.heap.size #[.string (showN rb), .string (showD rb)] 24) := Lib.hid hR0
  clear hR0
  generalize w10'.heap.size = b_q at *
  obtain ⟨c_p_0, c_p_1⟩ := zs2 HR_p.out
  obtain ⟨c_q_0, c_q_1⟩ := zs2 HR_q.out
  go_wp2_with fail
  refine (mLessQ rb ra (N_rb.out.fits (by omega) (by omega)) (N_ra.out.fits (by omega) (by omega)) w11' (HT0.out.ext HW.out)).mono ?_
  rintro e w12' ⟨rfl, hbz⟩
  rw [HLS.out]
  replace HR_a := Lib.hid (HR_a.out.ext hbz)
  replace HR_b := Lib.hid (HR_b.out.ext hbz)
  replace HR_p := Lib.hid (HR_p.out.ext hbz)
  replace HR_q := Lib.hid (HR_q.out.ext hbz)
  replace HW := Lib.hid (ext_trans HW.out hbz)
  clear c_p_0 c_p_1 c_q_0 c_q_1
  clear hbz
  clear HR_p
  clear HR_q
  clear HR_a
  clear HR_b
  go_wp2_with fail
  refine (adjM_at l a c w12' (HS.out.ext HW.out) HKO.out).mono ?_
  rintro e w13' ⟨ax, cx, rfl, hsx, hbz⟩
  replace HW := Lib.hid (ext_trans HW.out hbz)
  clear hbz
  have HSX : Hid (Sl w13' (.slice ax (ajsL l).length cx) (ajsL l).length ((ajsL l).flatMap evL)) := Lib.hid hsx
  clear hsx
  by_cases hz2 : raF 2 l = 0
  ·rw [hz2]
   have HP := Lib.hid hz2
   clear hz2
   have HLL : Hid (ajsL l = ajL (armL l)) := Lib.hid (by unfold ajsL; rw [if_neg (fun h => h HP.out)])
   have HJL : Hid ((ajL (armL l)).length = l.length) := Lib.hid (by unfold ajL; rw [List.length_map]; exact HLA.out)
   rw [HLL.out, HJL.out]
   rw [HLL.out, HJL.out] at HSX
   replace HS := Lib.hid (HS.out.ext HW.out)
   replace HT0 := Lib.hid (HT0.out.ext HW.out)
   have HWA := HW
   clear HW
   have HW : Hid (Below w13'.heap.size w13' w13') := Lib.hid (Below.refl _ _)
   obtain ⟨mq, hmq⟩ : ∃ z, mdQ (armL l) = z := ⟨_, rfl⟩
   have E_mq := Lib.hid hmq
   have N_mq : Hid (Ln 121 6 mq) := Lib.hid (by rw [← hmq]; exact md_ln HAO.out (by rw [HLA.out]; exact (ra_parts HZ.out).1.1))
   clear hmq
   have HGL : Hid (∀ (i : Nat) (m : MV), l[i]? = some m → (ajL (armL l))[i]? = some (ajE sl mq m.arm)) := Lib.hid (fun i m h => by unfold ajL armL; rw [List.getElem?_map, List.getElem?_map, h]; show some (ajE (slQ (armL l)) (mdQ (armL l)) m.arm) = _; rw [E_sl.out, E_mq.out])
   obtain ⟨z, hz⟩ : ∃ z : Rat, ((0 : Int) : Rat) = z := ⟨_, rfl⟩
   have HZQ := Lib.hid hz
   have HZ0 : Hid (z = 0) := Lib.hid (by rw [← hz]; rfl)
   clear hz
   go_wp2_with fail
   refine (whole_z 0 z HZQ.out (by decide) (by decide) w13' (HT0.out.ext HW.out)).mono ?_
   rintro e w14' ⟨rfl, hbz⟩
   replace HW := Lib.hid (ext_trans HW.out hbz)
   clear hbz
   go_upto_region 15 with (fail)
   refine wp_rows1 fun w15' hbz hR0 => ?_
   have le_u : w13'.heap.size ≤ w14'.heap.size := HW.out.size
   replace HW := Lib.hid (ext_trans HW.out hbz)
   clear hbz
   have HR_u : Hid (RH w15' w14'.heap.size #[.string (showN z), .string (showD z)] 24) := Lib.hid hR0
   clear hR0
   generalize w14'.heap.size = b_u at *
   rw [HZ0.out] at HR_u
   go_wp2
   go_loopw [16, 75] (fun _ i wr => ∃ (k : Nat) (ya : Rat), k ≤ l.length ∧ i = .int .i64 (k : Int) ∧ Hid (ya = chL sl mq ((armL l).take k)) ∧ (RH wr b_u #[.string (showN ya), .string (showD ya)] 24) ∧ (Below w13'.heap.size w13' wr)) (fun _ i _ => l.length - (intOf i).toNat)
   case atStart => exact ⟨0, 0, by omega, rfl, rfl, HR_u.out, HW.out⟩
   case round =>
    obtain ⟨k, ya, hk, rfl, HYA, q_HR_u, q_HW⟩ := hrel
    clear HR_u HW
    have HR_u := Lib.hid q_HR_u
    have HW := Lib.hid q_HW
    clear q_HR_u q_HW
    generalize hX : wr = X at *
    clear hX
    have hl20 : l.length ≤ 20 := (ra_parts HZ.out).1.2
    have N_ya : Hid (Ln 700 500 ya) := Lib.hid (by rw [HYA.out]; exact chL_ln HAO.out N_sl.out N_mq.out (by rw [HLA.out]; exact hk))
    by_cases hlt : k < l.length
    ·have hgk := List.getElem?_eq_getElem hlt
     have HOK := Lib.hid (HKO.out _ (List.getElem_mem hlt))
     have hal : k < (armL l).length := by rw [HLA.out]; exact hlt
     have e9 : (armL l)[k] = MV.arm l[k] := by simp only [armL, List.getElem_map]
     have HTY := chL_take sl mq hal
     rw [e9] at HTY
     clear e9
     have HQA := ra_arm HZ.out (List.getElem_mem hlt)
     have N_yb0 := chL_ln (k := k + 1) HAO.out N_sl.out N_mq.out (by omega)
     have HGK := HGL.out k _ hgk
     generalize l[k] = mv at *
     obtain ⟨n, r⟩ := mv
     obtain ⟨pb, po, hp9, hcs⟩ := (HS.out.ext HW.out).elem (f := mnL) (fun _ => rfl) (by omega : 0 < 11) hgk
     subst hp9
     have e0 : X.cell? ⟨pb, po + k * 11, none⟩ = some (.int .i64 (n)) := hcs 0 _ rfl
     have e1 : X.cell? ⟨pb, po + k * 11 + 1, none⟩ = some (.string r.x.n) := hcs 1 _ rfl
     have e2 : X.cell? ⟨pb, po + k * 11 + 2, none⟩ = some (.string r.x.d) := hcs 2 _ rfl
     have e3 : X.cell? ⟨pb, po + k * 11 + 3, none⟩ = some (.string r.y.n) := hcs 3 _ rfl
     have e4 : X.cell? ⟨pb, po + k * 11 + 4, none⟩ = some (.string r.y.d) := hcs 4 _ rfl
     have e5 : X.cell? ⟨pb, po + k * 11 + 5, none⟩ = some (.string r.xx.n) := hcs 5 _ rfl
     have e6 : X.cell? ⟨pb, po + k * 11 + 6, none⟩ = some (.string r.xx.d) := hcs 6 _ rfl
     have e7 : X.cell? ⟨pb, po + k * 11 + 7, none⟩ = some (.string r.yy.n) := hcs 7 _ rfl
     have e8 : X.cell? ⟨pb, po + k * 11 + 8, none⟩ = some (.string r.yy.d) := hcs 8 _ rfl
     have e9 : X.cell? ⟨pb, po + k * 11 + 9, none⟩ = some (.string r.xy.n) := hcs 9 _ rfl
     have e10 : X.cell? ⟨pb, po + k * 11 + 10, none⟩ = some (.string r.xy.d) := hcs 10 _ rfl
     have hk0 : (0 : Int) ≤ (k : Int) := Int.natCast_nonneg _
     have hk1 : (k : Int) < (l.length : Int) := by omega
     have hk3 : (k : Int).toNat = k := by omega
     clear hcs hgk
     obtain ⟨⟨hn0, _, hn1⟩, _, hrq, hql, _⟩ := HQA
     simp only [MV.arm] at hn0 hn1 hrq hql HTY HGK
     obtain ⟨q, hq⟩ : ∃ z, r.q = z := ⟨_, rfl⟩
     rw [hq] at hql hrq HTY HGK
     subst hrq
     clear hq
     have HQL := Lib.hid hql
     clear hql
     have HGK := Lib.hid HGK
     rw [← HYA.out] at HTY
     obtain ⟨yb, hyb⟩ : ∃ z, chL sl mq ((armL l).take (k + 1)) = z := ⟨_, rfl⟩
     rw [hyb] at HTY N_yb0
     have N_yb := Lib.hid N_yb0
     have HTY9 := Lib.hid HTY
     have HQ9 := Lib.hid hyb
     clear HTY hyb N_yb0 hal
     obtain ⟨sq, h9⟩ : ∃ z : Rat, ((n : Int) : Rat) = z := ⟨_, rfl⟩
     have E_sq := Lib.hid h9
     have N_sq : Hid (Ln 5 0 sq) := Lib.hid (by rw [← h9]; exact (ln_n (by omega) hn1).mono (by omega) (by omega))
     clear h9
     have HSZ : Hid (sq ≠ 0) := Lib.hid (by rw [← E_sq.out]; exact n_ne (by omega))
     obtain ⟨xq, hxq⟩ : ∃ z, q.x = z := ⟨_, rfl⟩
     obtain ⟨yq, hyq⟩ : ∃ z, q.y = z := ⟨_, rfl⟩
     have E_xq := Lib.hid hxq
     have E_yq := Lib.hid hyq
     have N_xq : Hid (Ln 100 0 xq) := Lib.hid (by rw [← hxq]; exact HQL.out.x)
     have N_yq : Hid (Ln 100 0 yq) := Lib.hid (by rw [← hyq]; exact HQL.out.y)
     clear hxq hyq
     obtain ⟨me, hme⟩ : ∃ z, adM sl mq ⟨n, q⟩ = z := ⟨_, rfl⟩
     have E_me := Lib.hid hme
     have N_me : Hid (Ln 560 438 me) := Lib.hid (by
      rw [← hme]
      have e1 : Ln 127 11 (yq / sq - mq) := (Ln.sub (Ln.div N_yq.out N_sq.out HSZ.out) N_mq.out).mono (by omega) (by omega)
      have e2 : Ln 549 433 (sl * (yq / sq - mq)) := (Ln.mul N_sl.out e1).mono (by omega) (by omega)
      unfold adM
      simp only [E_sq.out, E_xq.out, E_yq.out]
      exact (Ln.sub (Ln.div N_xq.out N_sq.out HSZ.out) e2).mono (by omega) (by omega))
     clear hme
     obtain ⟨nm, h9⟩ : ∃ z : Rat, sq * me = z := ⟨_, rfl⟩
     have E_nm := Lib.hid h9
     have N_nm : Hid (Ln 565 438 nm) := Lib.hid (by rw [← h9]; exact (Ln.mul N_sq.out N_me.out).mono (by omega) (by omega))
     clear h9
     obtain ⟨xm, h9⟩ : ∃ z : Rat, xq - nm = z := ⟨_, rfl⟩
     have E_xm := Lib.hid h9
     have N_xm : Hid (Ln 566 438 xm) := Lib.hid (by rw [← h9]; exact (Ln.sub N_xq.out N_nm.out).mono (by omega) (by omega))
     clear h9
     have E_yb : Hid (ya + xm = yb) := Lib.hid (by
      have e := HTY9.out
      simp only [E_me.out, E_sq.out, E_xq.out] at e
      rw [E_nm.out, E_xm.out] at e
      exact e.symm)
     clear HTY9
     obtain ⟨ve, hve⟩ : ∃ z, ajV sl n q = z := ⟨_, rfl⟩
     have HGE : Hid ((ajL (armL l))[k]? = some ⟨n, me, ve⟩) := Lib.hid (by rw [HGK.out]; unfold ajE; simp only [E_me.out, hve])
     clear HGK hve
     go_upto_region 18 with (fail)
     refine wp_rows1 fun w16' hbz hR0 => ?_
     have lt_u_m : b_u < X.heap.size := HR_u.out.lt
     have le_m : w13'.heap.size ≤ X.heap.size := HW.out.size
     replace HR_u := Lib.hid (HR_u.out.ext hbz)
     replace HW := Lib.hid (ext_trans HW.out hbz)
     clear e0 e1 e2 e3 e4 e5 e6 e7 e8 e9 e10
     clear hbz
     have HR_m : Hid (RH w16' X.heap.size (mrA (n) q.r) 35) := Lib.hid hR0
     clear hR0
     generalize X.heap.size = b_m at *
     obtain ⟨eb, eo, hax, hes⟩ := (HSX.out.ext HW.out).elem (f := evL) (fun _ => rfl) (by omega : 0 < 5) HGE.out
     subst hax
     have g1 := hes 1 _ rfl
     have g2 := hes 2 _ rfl
     clear hes
     obtain ⟨c_m_0, c_m_1, c_m_2, -, -, -, -, -, -, -, -⟩ := zs11 HR_m.out
     obtain ⟨c_u_0, c_u_1⟩ := zs2 HR_u.out
     refine Grow.wp_region_grow 14 [TP.eq (rtV ya), TP.eq (.pointer (some ⟨b_m, 1, none⟩)), TP.eq (rtV q.x), TP.eq (.pointer (some ⟨b_m, 0, none⟩)), TP.eq (.int .i64 n), TP.eq (rtV sq), TP.eq (.slice (some ⟨eb, eo, none⟩) l.length cx), TP.eq (.int .i64 (k : Int)), TP.eq (.pointer (some ⟨eb, eo + k * 5, none⟩)), TP.eq (.pointer (some ⟨eb, eo + k * 5 + 1, none⟩)), TP.eq (rtV me), TP.eq (rtV nm), TP.eq (rtV xm), TP.eq (rtV yb)] [[], [], [1], [], [3], [4], [], [], [6, 7], [8], [9], [5, 10], [2, 11], [0, 12]] (by kernel_rfl) (by kernel_rfl) ⟨?o0r, ?o1r, ?o2r, ?o3r, ?o4r, ?o5r, ?o6r, ?o7r, ?o8r, ?o9r, ?o10r, ?o11r, ?o12r, ?o13r, trivial⟩ ?_
     case o0r =>
      intro w' hb
      have c_u_0' := zzc hb c_u_0
      have c_u_1' := zzc hb c_u_1
      show wpList _ _ _ _ _ _
      go_wp2
      exact ⟨rfl, Below.refl _ _, rfl⟩
     case o1r | o3r | o6r | o7r =>
      intro w' hb
      show wpList _ _ _ _ _ _
      go_wp2
      exact ⟨rfl, Below.refl _ _, rfl⟩
     case o2r | o4r | o10r =>
      intro w' hb v1 hv1
      cases hv1
      have c_m_1' := zzc hb c_m_1
      have c_m_2' := zzc hb c_m_2
      have c_m_0' := zzc hb c_m_0
      have g1' := zzc hb g1
      have g2' := zzc hb g2
      show wpList _ _ _ _ _ _
      simp only [Grow.dstOf, zzp, Act.put]
      go_wp2
      exact ⟨rfl, Below.refl _ _, rfl⟩
     case o5r =>
      intro w' hb v1 hv1
      cases hv1
      show wpList _ _ _ _ _ _
      simp only [Grow.dstOf, zzp, Act.put]
      go_wp2_with fail
      refine (whole_z n sq E_sq.out (by omega) (by omega) w' (HT0.out.ext (ext_trans HW.out hb))).mono ?_
      rintro e wz ⟨rfl, hbz⟩
      go_wp2
      exact ⟨rfl, hbz, rfl⟩
     case o8r =>
      intro w' hb v1 hv1 v2 hv2
      cases hv1
      cases hv2
      show wpList _ _ _ _ _ _
      simp only [Grow.dstOf, zzp, Act.put]
      go_wp2
      exact ⟨rfl, Below.refl _ _, rfl⟩
     case o9r =>
      intro w' hb v1 hv1
      cases hv1
      show wpList _ _ _ _ _ _
      simp only [Grow.dstOf, zzp, Act.put]
      go_wp2
      exact ⟨rfl, Below.refl _ _, rfl⟩
     case o11r =>
      intro w' hb v1 hv1 v2 hv2
      cases hv1
      cases hv2
      show wpList _ _ _ _ _ _
      simp only [Grow.dstOf, zzp, Act.put]
      go_wp2_with fail
      refine (times_is sq me nm E_nm.out (N_sq.out.fits (by omega) (by omega)) (N_me.out.fits (by omega) (by omega)) (N_nm.out.fits (by omega) (by omega)) w' (HT0.out.ext (ext_trans HW.out hb))).mono ?_
      rintro e wz ⟨rfl, hbz⟩
      go_wp2
      exact ⟨rfl, hbz, rfl⟩
     case o12r =>
      intro w' hb v1 hv1 v2 hv2
      cases hv1
      cases hv2
      show wpList _ _ _ _ _ _
      simp only [Grow.dstOf, zzp, Act.put]
      go_wp2_with fail
      refine (minus_is q.x nm xm (by rw [E_xq.out]; exact E_xm.out) (by rw [E_xq.out]; exact (N_xq.out.fits (by omega) (by omega))) (N_nm.out.fits (by omega) (by omega)) (N_xm.out.fits (by omega) (by omega)) w' (HT0.out.ext (ext_trans HW.out hb))).mono ?_
      rintro e wz ⟨rfl, hbz⟩
      go_wp2
      exact ⟨rfl, hbz, rfl⟩
     case o13r =>
      intro w' hb v1 hv1 v2 hv2
      cases hv1
      cases hv2
      show wpList _ _ _ _ _ _
      simp only [Grow.dstOf, zzp, Act.put]
      go_wp2_with fail
      refine (plus_is ya xm yb E_yb.out (N_ya.out.fits (by omega) (by omega)) (N_xm.out.fits (by omega) (by omega)) (N_yb.out.fits (by omega) (by omega)) w' (HT0.out.ext (ext_trans HW.out hb))).mono ?_
      rintro e wz ⟨rfl, hbz⟩
      go_wp2
      exact ⟨rfl, hbz, rfl⟩
     intro w17' hbz u0 hu0 u1 hu1 u2 hu2 u3 hu3 u4 hu4 u5 hu5 u6 hu6 u7 hu7 u8 hu8 u9 hu9 u10 hu10 u11 hu11 u12 hu12 u13 hu13
     obtain rfl : u13 = _ := hu13
     clear hu0 hu1 hu2 hu3 hu4 hu5 hu6 hu7 hu8 hu9 hu10 hu11 hu12
     replace HR_u := Lib.hid (HR_u.out.ext hbz)
     replace HR_m := Lib.hid (HR_m.out.ext hbz)
     replace HW := Lib.hid (ext_trans HW.out hbz)
     clear g1 g2 c_m_0 c_m_1 c_m_2 c_u_0 c_u_1
     clear hbz
     clear HR_m
     show wpList _ _ _ _ _ _
     simp only [Act.put, zzp]
     obtain ⟨c_u_0, c_u_1⟩ := zs2 HR_u.out
     have f_u_0 := HR_u.out.fre 0
     have f_u_1 := HR_u.out.fre 1
     go_upto_region 19 with (fail)
     obtain ⟨w18', hX⟩ : ∃ Z9, Z9 = ((w17'.setCell ⟨b_u, 0, none⟩ (.string (showN yb))).setCell ⟨b_u, 1, none⟩ (.string (showD yb))) := ⟨_, rfl⟩
     rw [← hX]
     have n_u : Hid (RH w18' b_u #[.string (showN yb), .string (showD yb)] 24) := by rw [hX]; exact Lib.hid (((HR_u.out).set 0 (.string (showN yb))).set 1 (.string (showD yb)))
     have HK_ : ∀ p : Addr, p.block ≠ b_u → w18'.cell? p = w17'.cell? p := fun p hp => by rw [hX]; exact (cs_other hp).trans (cs_other hp)
     have nW : Hid (Below w13'.heap.size w13' w18') := by rw [hX]; exact Lib.hid (zzw (zzw (HW.out) (by omega)) (by omega))
     clear c_u_0 c_u_1 f_u_0 f_u_1
     clear hX HK_ HW HR_u 
     have HR_u := n_u; clear n_u
     have HW := nW; clear nW
     go_wp2
     go_roundw
     case rel => exact ⟨k + 1, yb, by omega, by go_num, Lib.hid HQ9.out.symm, HR_u.out, HW.out⟩
     case measure => simp [intOf]; omega
    ·have HY0 : Hid (ya = z) := Lib.hid (by
      have h1 := adj_sum (l := armL l) (slQ (armL l)) (fun a ha => (HAO.out.ok a ha).1.1) (fun h => by have h2 := HLA.out; rw [h] at h2; have h3 := (ra_parts HZ.out).1.1; simp at h2; omega)
      have h2 : chL sl mq (armL l) = 0 := by rw [← E_sl.out, ← E_mq.out]; exact h1
      rw [HYA.out, show k = (armL l).length by rw [HLA.out]; omega, List.take_length, h2, HZ0.out])
     rw [HY0.out] at HR_u
     go_upto_region 20 with (fail)
     obtain ⟨c_u_0, c_u_1⟩ := zs2 HR_u.out
     refine Grow.wp_region_grow 3 [TP.eq (rtV z), TP.eq (rtV z), TP.eq (.bool true)] [[], [], [0, 1]] (by kernel_rfl) (by kernel_rfl) ⟨?o0e, ?o1e, ?o2e, trivial⟩ ?_
     case o0e =>
      intro w' hb
      have c_u_0' := zzc hb c_u_0
      have c_u_1' := zzc hb c_u_1
      show wpList _ _ _ _ _ _
      go_wp2
      exact ⟨rfl, Below.refl _ _, rfl⟩
     case o1e =>
      intro w' hb
      show wpList _ _ _ _ _ _
      go_wp2_with fail
      refine (whole_z 0 z HZQ.out (by decide) (by decide) w' (HT0.out.ext (ext_trans HW.out hb))).mono ?_
      rintro e wz ⟨rfl, hbz⟩
      go_wp2
      exact ⟨rfl, hbz, rfl⟩
     case o2e =>
      intro w' hb v1 hv1 v2 hv2
      cases hv1
      cases hv2
      show wpList _ _ _ _ _ _
      simp only [Grow.dstOf, zzp, Act.put]
      go_wp2
      exact ⟨rfl, Below.refl _ _, rfl⟩
     intro w16' hbz u0 hu0 u1 hu1 u2 hu2
     obtain rfl : u2 = _ := hu2
     clear hu0 hu1
     replace HR_u := Lib.hid (HR_u.out.ext hbz)
     replace HW := Lib.hid (ext_trans HW.out hbz)
     clear c_u_0 c_u_1
     clear hbz
     show wpList _ _ _ _ _ _
     simp only [Act.put, zzp]
     go_wp2
     go_ret
     exact ⟨by simp, ext_trans HWA.out HW.out⟩
  ·have h9 : raF 2 l = 9 := by
    have h := ra_two HZ.out
    by_cases hf : fewL 2 l = true
    ·rw [h, if_pos hf]
    ·rw [if_neg hf] at h; exact absurd h hz2
   rw [h9]
   clear h9 hz2
   go_wp2
   go_ret
   exact ⟨by simp, HW.out⟩
 ·simp only [rtN_no hz, rtD_no hz]
  have hne2 : (raF 1 l != 0) = true := by simp [hz]
  clear hz
  go_upto_region 4 with (fail)
  refine wp_rows1 fun w3' hbz hR0 => ?_
  have le_a : w.heap.size ≤ w2'.heap.size := HW.out.size
  replace HW := Lib.hid (ext_trans HW.out hbz)
  clear hbz
  have HR_a : Hid (RH w3' w2'.heap.size #[.string ⟨#[]⟩, .string ⟨#[]⟩] 24) := Lib.hid hR0
  clear hR0
  generalize w2'.heap.size = b_a at *
  obtain ⟨c_a_0, c_a_1⟩ := zs2 HR_a.out
  go_wp2
  go_ret
  exact ⟨by simp, HW.out⟩
end Nt
end Go.Proofs.YtlbnjgnbpiidaaaGreatDoor
