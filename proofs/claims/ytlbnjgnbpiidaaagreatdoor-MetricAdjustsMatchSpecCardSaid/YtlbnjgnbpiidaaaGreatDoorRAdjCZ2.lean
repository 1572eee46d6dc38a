/- Adjust of the reference. Printed by gen_radjb.py. -/
import Derived.Test.YtlbnjgnbpiidaaaGreatDoorRAdjC
import Derived.Test.YtlbnjgnbpiidaaaGreatDoorB846
import Derived.Test.YtlbnjgnbpiidaaaGreatDoorB837
namespace Go.Proofs.YtlbnjgnbpiidaaaGreatDoor
open Go.RowKit
namespace Nt
open _root_.Go.Proofs.YtlbnjgnbpiidaaaGreatDoor.Nm (tl_lit rF rQ showN showD Fits show_size cutS cutS_size cutB cut_show cmpQ RT rtL rtOk trimPrefix_at tail_none Ln QL QF QS Q5 R5 shR mrA mr_info NoW noW_all BF cs_other wp_rows1 wp_rows2 wp_rows3 wp_rows4 smF smL smL_step sm_five momF posB posB1 posB_steps zerB dfA dfB dfC df_ln ln_n n_ne fits_int i64_ten BPost FPost spA spB spC sp_ln atF at_parts mom_parts vrQ rtC fq fr fr_get R5.ok_at rat_neg MV MV.arm mnL armL armsF armsF_step fewL fewL_step raF ra_parts ra_arm Arm aB aC aB_take aC_take aB_ok aC_ok ApOk ArmsOk arms_ok slQ sl_ln rsQ quR quV quF aS aS_ok aS_y aY aY_app aN aN_ok aN_take EV evL ajV ajE mdQ ajL ajsL et_info EO EO.ext EO.push AjPost AjPost.bad adM ra_one fewL_no mdQ n_ne TP.row rtN rtD nF rtN_0 rtD_0 nF_0 rtN_no rtD_no nF_no meQ RqPost EsPost mom_ql at_ql)
theorem ajV_eq (k : Rat) (n : Int) (q : Q5) : ajV k n q = rsQ k ⟨n, q⟩ / (((n : Int) : Rat) * ((n - 1 : Int) : Rat)) := by
 unfold ajV rsQ
 generalize ((n - 1 : Int) : Rat) = p
 generalize spA n q = a
 generalize spB n q = b
 generalize spC n q = c
 have e2 : ((2 : Int) : Rat) = 2 := rfl
 rw [e2]
 grind
theorem aY_take {l : List Arm} {k : Nat} (h : k < l.length) : aY (l.take (k + 1)) = aY (l.take k) + l[k].q.y := by rw [List.take_succ_eq_append_getElem h, aY_app]
set_option maxRecDepth 100000 in
set_option maxHeartbeats 16000000 in
theorem refAdj_at (l : List MV) (a : Option Addr) (c : Nat) (w : World) (hs : Sl w (.slice a l.length c) l.length (l.flatMap mnL)) (hok : ∀ m ∈ l, m.r.ok) (ht : Tab w) : Calls Tryz.prog 8 #[.slice a l.length c] w (AjPost w l) := by
 have HS := Lib.hid hs
 have HKO := Lib.hid hok
 have HI := Lib.hid et_info
 clear hs hok
 go_enter Tryz.func8, Tryz.ntmps8
 have HT0 := Lib.hid ht
 clear ht
 have HW : Hid (Below w.heap.size w w) := Lib.hid (Below.refl _ _)
 go_wp2_with fail
 refine (arms_at 2 l a c w (HS.out.ext HW.out) HKO.out (HT0.out.ext HW.out)).mono ?_
 rintro e w1' ⟨rfl, hbz⟩
 replace HW := Lib.hid (ext_trans HW.out hbz)
 clear hbz
 by_cases hz : raF 2 l = 0
 ·have hne2 : (raF 2 l != 0) = false := by simp [hz]
  have HP := Lib.hid hz
  have HZ : Hid (raF 1 l = 0) := Lib.hid (ra_one hz)
  clear hz
  have HAO := Lib.hid (arms_ok (Int.le_refl 1) HZ.out)
  have HLA : Hid ((armL l).length = l.length) := Lib.hid (by unfold armL; rw [List.length_map])
  have HLL : Hid (ajsL l = ajL (armL l)) := Lib.hid (by unfold ajsL; rw [if_neg (fun h => h HP.out)])
  have HN2 : Hid (∀ m ∈ l, 2 ≤ m.n) := Lib.hid (fun m hm => fewL_no (ra_parts HP.out).2.2 m hm)
  have HLP : Hid (0 < l.length ∧ l.length ≤ 20) := Lib.hid (ra_parts HP.out).1
  have HPO : Hid (∀ (a9 : Option Addr) (c9 : Nat) (W9 : World), Sl W9 (.slice a9 l.length c9) l.length ((ajL (armL l)).flatMap evL) → Below w.heap.size w W9 → AjPost w l (.returned (.tuple #[.slice a9 l.length c9, .int .i64 0])) W9) := Lib.hid (fun a9 c9 W9 h1 h2 => by
   have e1 : (ajL (armL l)).length = l.length := by unfold ajL; rw [List.length_map]; exact HLA.out
   refine ⟨a9, c9, by rw [HLL.out, HP.out, e1], ?_, h2⟩
   rw [HLL.out, e1]; exact h1)
  clear HLL HP
  obtain ⟨sl, h9⟩ : ∃ z : Rat, slQ (armL l) = z := ⟨_, rfl⟩
  have E_sl := Lib.hid h9
  have N_sl : Hid (Ln 422 422 sl) := Lib.hid (by rw [← h9]; exact (sl_ln HAO.out).mono (by omega) (by omega))
  clear h9
  obtain ⟨z, hz⟩ : ∃ z : Rat, ((0 : Int) : Rat) = z := ⟨_, rfl⟩
  have HZQ := Lib.hid hz
  have HZ0 : Hid (z = 0) := Lib.hid (by rw [← hz]; rfl)
  clear hz
  go_wp2_with fail
  refine (refSlope0_at l a c w1' (HS.out.ext HW.out) HKO.out (HT0.out.ext HW.out) HZ.out).mono ?_
  rintro e w2' ⟨rfl, hbz⟩
  rw [E_sl.out]
  replace HW := Lib.hid (ext_trans HW.out hbz)
  clear hbz
  go_upto_region 5 with (fail)
  refine wp_rows1 fun w3' hbz hR0 => ?_
  have le_s : w.heap.size ≤ w2'.heap.size := HW.out.size
  replace HW := Lib.hid (ext_trans HW.out hbz)
  clear hbz
  have HR_s : Hid (RH w3' w2'.heap.size #[.string (showN sl), .string (showD sl)] 24) := Lib.hid hR0
  clear hR0
  generalize w2'.heap.size = b_s at *
  go_wp2_with fail
  refine (whole_z 0 z HZQ.out (by decide) (by decide) w3' (HT0.out.ext HW.out)).mono ?_
  rintro e w4' ⟨rfl, hbz⟩
  replace HR_s := Lib.hid (HR_s.out.ext hbz)
  replace HW := Lib.hid (ext_trans HW.out hbz)
  clear hbz
  go_upto_region 6 with (fail)
  refine wp_rows1 fun w5' hbz hR0 => ?_
  have lt_s_y : b_s < w4'.heap.size := HR_s.out.lt
  have le_y : w.heap.size ≤ w4'.heap.size := HW.out.size
  replace HR_s := Lib.hid (HR_s.out.ext hbz)
  replace HW := Lib.hid (ext_trans HW.out hbz)
  clear hbz
  have HR_y : Hid (RH w5' w4'.heap.size #[.string (showN z), .string (showD z)] 24) := Lib.hid hR0
  clear hR0
  generalize w4'.heap.size = b_y at *
  rw [HZ0.out] at HR_y
  clear HZQ HZ0
  go_wp2
  go_loopw [6, 26] (fun n6 i wr => ∃ (k : Nat) (na : Int) (ya : Rat), k ≤ l.length ∧ n6 = .int .i64 na ∧ i = .int .i64 (k : Int) ∧ Hid (na = aN ((armL l).take k)) ∧ Hid (ya = aY ((armL l).take k)) ∧ (RH wr b_s #[.string (showN sl), .string (showD sl)] 24) ∧ (RH wr b_y #[.string (showN ya), .string (showD ya)] 24) ∧ (Below w.heap.size w wr)) (fun _ i _ => l.length - (intOf i).toNat)
  case atStart => exact ⟨0, 0, 0, by omega, rfl, rfl, rfl, rfl, HR_s.out, HR_y.out, HW.out⟩
  case round =>
   obtain ⟨k, na, ya, hk, rfl, rfl, HNA, HYA, q_HR_s, q_HR_y, q_HW⟩ := hrel
   clear HR_s HR_y HW
   have HR_s := Lib.hid q_HR_s
   have HR_y := Lib.hid q_HR_y
   have HW := Lib.hid q_HW
   clear q_HR_s q_HR_y q_HW
   generalize hX : wr = X at *
   clear hX
   have hl20 : l.length ≤ 20 := HLP.out.2
   have HNB : Hid ((k : Int) ≤ na ∧ na ≤ 20000 * (k : Int)) := Lib.hid (by rw [HNA.out]; exact aN_ok HAO.out k (by rw [HLA.out]; exact hk))
   have N_ya : Hid (Ln 121 0 ya) := Lib.hid (by rw [HYA.out]; exact aY_ok HAO.out (by rw [HLA.out]; exact hk))
   by_cases hlt : k < l.length
   ·have hgk := List.getElem?_eq_getElem hlt
    have HOK := Lib.hid (HKO.out _ (List.getElem_mem hlt))
    have hal : k < (armL l).length := by rw [HLA.out]; exact hlt
    have e9 : (armL l)[k] = MV.arm l[k] := by simp only [armL, List.getElem_map]
    have HTN := aN_take hal
    have HTY := aY_take hal
    rw [e9] at HTN HTY
    clear e9
    have HQA := ra_arm HZ.out (List.getElem_mem hlt)
    have N_yb0 := aY_ok HAO.out (show k + 1 ≤ (armL l).length by omega)
    generalize l[k] = mv at *
    obtain ⟨n, r⟩ := mv
    obtain ⟨pb, po, hp9, hcs⟩ := (HS.out.ext HW.out).elem (f := mnL) (fun _ => rfl) (by omega : 0 < 11) hgk
    subst hp9
    have e0 : X.cell? ⟨pb, po + k * 11, none⟩ = some (.int .i64 (n)) := hcs 0 _ rfl
    have e1 : X.cell? ⟨pb, po + k * 11 + 1, none⟩ = some (.string r.x.n) := hcs 1 _ rfl
    have e2 : X.cell? ⟨pb, po + k * 11 + 2, none⟩ = some (.string r.x.d) := hcs 2 _ rfl
    have e3 : X.cell? ⟨pb, po + k * 11 + 3, none⟩ = some (.string r.y.n) := hcs 3 _ rfl
    have e4 : X.cell? ⟨pb, po + k * 11 + 4, none⟩ = some (.string r.y.d) := hcs 4 _ rfl
    have e5 : X.cell? ⟨pb, po + k * 11 + 5, none⟩ = some (.string r.xx.n) := hcs 5 _ rfl
    have e6 : X.cell? ⟨pb, po + k * 11 + 6, none⟩ = some (.string r.xx.d) := hcs 6 _ rfl
    have e7 : X.cell? ⟨pb, po + k * 11 + 7, none⟩ = some (.string r.yy.n) := hcs 7 _ rfl
    have e8 : X.cell? ⟨pb, po + k * 11 + 8, none⟩ = some (.string r.yy.d) := hcs 8 _ rfl
    have e9 : X.cell? ⟨pb, po + k * 11 + 9, none⟩ = some (.string r.xy.n) := hcs 9 _ rfl
    have e10 : X.cell? ⟨pb, po + k * 11 + 10, none⟩ = some (.string r.xy.d) := hcs 10 _ rfl
    have hk0 : (0 : Int) ≤ (k : Int) := Int.natCast_nonneg _
    have hk1 : (k : Int) < (l.length : Int) := by omega
    have hk3 : (k : Int).toNat = k := by omega
    clear hcs hgk
    obtain ⟨⟨hn0, _, hn1⟩, _, hrq, hql, _⟩ := HQA
    simp only [MV.arm] at hn0 hn1 hrq hql HTN HTY
    obtain ⟨q, hq⟩ : ∃ z, r.q = z := ⟨_, rfl⟩
    rw [hq] at hql hrq HTY
    subst hrq
    clear hq
    have HQL := Lib.hid hql
    clear hql
    rw [← HNA.out] at HTN
    rw [← HYA.out] at HTY
    obtain ⟨nb, hnb⟩ : ∃ z, aN ((armL l).take (k + 1)) = z := ⟨_, rfl⟩
    obtain ⟨yb, hyb⟩ : ∃ z, aY ((armL l).take (k + 1)) = z := ⟨_, rfl⟩
    rw [hnb] at HTN
    rw [hyb] at HTY N_yb0
    have E_yb : Hid (ya + q.y = yb) := Lib.hid HTY.symm
    have N_yb := Lib.hid N_yb0
    have HNBB := HNB.out
    have hnw : IntKind.i64.wrap (na + n) = nb := by rw [HTN]; exact IntWalk.i64_in _ (by constructor <;> omega)
    have HQ9 := Lib.hid (And.intro hnb hyb)
    clear HTN HTY hnb hyb N_yb0 HNBB hal
    go_upto_region 9 with (fail)
    refine wp_rows1 fun w6' hbz hR0 => ?_
    have lt_s_m : b_s < X.heap.size := HR_s.out.lt
    have lt_y_m : b_y < X.heap.size := HR_y.out.lt
    have le_m : w.heap.size ≤ X.heap.size := HW.out.size
    replace HR_s := Lib.hid (HR_s.out.ext hbz)
    replace HR_y := Lib.hid (HR_y.out.ext hbz)
    replace HW := Lib.hid (ext_trans HW.out hbz)
    clear e0 e1 e2 e3 e4 e5 e6 e7 e8 e9 e10
    clear hbz
    have HR_m : Hid (RH w6' X.heap.size (mrA (n) q.r) 35) := Lib.hid hR0
    clear hR0
    generalize X.heap.size = b_m at *
    obtain ⟨c_m_0, -, -, c_m_3, c_m_4, -, -, -, -, -, -⟩ := zs11 HR_m.out
    obtain ⟨c_y_0, c_y_1⟩ := zs2 HR_y.out
    refine Grow.wp_region_grow 8 [TP.eq (.int .i64 na), TP.eq (.pointer (some ⟨b_m, 0, none⟩)), TP.eq (.int .i64 n), TP.eq (.int .i64 nb), TP.eq (rtV ya), TP.eq (.pointer (some ⟨b_m, 3, none⟩)), TP.eq (rtV q.y), TP.eq (rtV yb)] [[], [], [1], [0, 2], [], [], [5], [4, 6]] (by kernel_rfl) (by kernel_rfl) ⟨?o0s, ?o1s, ?o2s, ?o3s, ?o4s, ?o5s, ?o6s, ?o7s, trivial⟩ ?_
    case o0s | o1s | o5s =>
     intro w' hb
     show wpList _ _ _ _ _ _
     go_wp2
     exact ⟨rfl, Below.refl _ _, rfl⟩
    case o2s | o6s =>
     intro w' hb v1 hv1
     cases hv1
     have c_m_0' := zzc hb c_m_0
     have c_m_3' := zzc hb c_m_3
     have c_m_4' := zzc hb c_m_4
     show wpList _ _ _ _ _ _
     simp only [Grow.dstOf, zzp, Act.put]
     go_wp2
     exact ⟨rfl, Below.refl _ _, rfl⟩
    case o3s =>
     intro w' hb v1 hv1 v2 hv2
     cases hv1
     cases hv2
     show wpList _ _ _ _ _ _
     simp only [Grow.dstOf, zzp, Act.put]
     go_wp2
     exact ⟨rfl, Below.refl _ _, rfl⟩
    case o4s =>
     intro w' hb
     have c_y_0' := zzc hb c_y_0
     have c_y_1' := zzc hb c_y_1
     show wpList _ _ _ _ _ _
     go_wp2
     exact ⟨rfl, Below.refl _ _, rfl⟩
    case o7s =>
     intro w' hb v1 hv1 v2 hv2
     cases hv1
     cases hv2
     show wpList _ _ _ _ _ _
     simp only [Grow.dstOf, zzp, Act.put]
     go_wp2_with fail
     refine (plus_is ya q.y yb E_yb.out (N_ya.out.fits (by omega) (by omega)) (HQL.out.y.fits (by omega) (by omega)) (N_yb.out.fits (by omega) (by omega)) w' (HT0.out.ext (ext_trans HW.out hb))).mono ?_
     rintro e wz ⟨rfl, hbz⟩
     go_wp2
     exact ⟨rfl, hbz, rfl⟩
    intro w7' hbz u0 hu0 u1 hu1 u2 hu2 u3 hu3 u4 hu4 u5 hu5 u6 hu6 u7 hu7
    obtain rfl : u3 = _ := hu3
    obtain rfl : u7 = _ := hu7
    clear hu0 hu1 hu2 hu4 hu5 hu6
    replace HR_s := Lib.hid (HR_s.out.ext hbz)
    replace HR_y := Lib.hid (HR_y.out.ext hbz)
    replace HR_m := Lib.hid (HR_m.out.ext hbz)
    replace HW := Lib.hid (ext_trans HW.out hbz)
    clear c_m_0 c_m_3 c_m_4 c_y_0 c_y_1
    clear hbz
    clear HR_m
    show wpList _ _ _ _ _ _
    simp only [Act.put, zzp]
    obtain ⟨c_y_0, c_y_1⟩ := zs2 HR_y.out
    have f_y_0 := HR_y.out.fre 0
    have f_y_1 := HR_y.out.fre 1
    go_upto_region 10 with (fail)
    obtain ⟨w8', hX⟩ : ∃ Z9, Z9 = ((w7'.setCell ⟨b_y, 0, none⟩ (.string (showN yb))).setCell ⟨b_y, 1, none⟩ (.string (showD yb))) := ⟨_, rfl⟩
    rw [← hX]
    have n_y : Hid (RH w8' b_y #[.string (showN yb), .string (showD yb)] 24) := by rw [hX]; exact Lib.hid (((HR_y.out).set 0 (.string (showN yb))).set 1 (.string (showD yb)))
    have n_s : Hid (RH w8' b_s #[.string (showN sl), .string (showD sl)] 24) := by rw [hX]; exact Lib.hid (zzo (zzo (HR_s.out) (by omega)) (by omega))
    have HK_ : ∀ p : Addr, p.block ≠ b_y → w8'.cell? p = w7'.cell? p := fun p hp => by rw [hX]; exact (cs_other hp).trans (cs_other hp)
    have nW : Hid (Below w.heap.size w w8') := by rw [hX]; exact Lib.hid (zzw (zzw (HW.out) (by omega)) (by omega))
    clear c_y_0 c_y_1 f_y_0 f_y_1
    clear hX HK_ HW HR_s HR_y 
    have HR_s := n_s; clear n_s
    have HR_y := n_y; clear n_y
    have HW := nW; clear nW
    go_wp2
    go_roundw
    case rel => exact ⟨k + 1, nb, yb, by omega, rfl, by go_num, Lib.hid HQ9.out.1.symm, Lib.hid HQ9.out.2.symm, HR_s.out, HR_y.out, HW.out⟩
    case measure => simp [intOf]; omega
   ·have hkl : k = (armL l).length := by rw [HLA.out]; omega
    have HNT : Hid (aN (armL l) = na) := Lib.hid (by rw [HNA.out, hkl, List.take_length])
    have HYT : Hid (aY (armL l) = ya) := Lib.hid (by rw [HYA.out, hkl, List.take_length])
    have hntb : 1 ≤ na ∧ na ≤ 400000 := by have h1 := HNB.out; have h2 := HLP.out; omega
    clear HNA HYA HNB hkl
    obtain ⟨nq, h9⟩ : ∃ z : Rat, ((na : Int) : Rat) = z := ⟨_, rfl⟩
    have E_nq := Lib.hid h9
    have N_nq : Hid (Ln 6 0 nq) := Lib.hid (by rw [← h9]; exact (Ln.int (z := na) (a := 6) (by have h6 : (10 : Nat) ^ 6 = 1000000 := (by decide); omega)).mono (by omega) (by omega))
    clear h9
    have HNZ : Hid (nq ≠ 0) := Lib.hid (by rw [← E_nq.out]; exact n_ne (by omega))
    obtain ⟨mq, h9⟩ : ∃ z : Rat, ya / nq = z := ⟨_, rfl⟩
    have E_mq := Lib.hid h9
    have N_mq : Hid (Ln 121 6 mq) := Lib.hid (by rw [← h9]; exact (Ln.div N_ya.out N_nq.out HNZ.out).mono (by omega) (by omega))
    clear h9
    have HMD : Hid (mdQ (armL l) = mq) := Lib.hid (by unfold mdQ; rw [HYT.out, HNT.out, E_nq.out]; exact E_mq.out)
    go_upto_region 11 with (fail)
    obtain ⟨c_y_0, c_y_1⟩ := zs2 HR_y.out
    refine Grow.wp_region_grow 5 [TP.eq (rtV ya), TP.eq (.int .i64 na), TP.eq (rtV nq), TP.eq (rtV mq), TP.row X.heap.size #[.string ⟨#[]⟩, .string ⟨#[]⟩] 24] [[], [], [1], [0, 2], []] (by kernel_rfl) (by kernel_rfl) ⟨?o0d, ?o1d, ?o2d, ?o3d, ?o4d, trivial⟩ ?_
    case o0d =>
     intro w' hb
     have c_y_0' := zzc hb c_y_0
     have c_y_1' := zzc hb c_y_1
     show wpList _ _ _ _ _ _
     go_wp2
     exact ⟨rfl, Below.refl _ _, rfl⟩
    case o1d =>
     intro w' hb
     show wpList _ _ _ _ _ _
     go_wp2
     exact ⟨rfl, Below.refl _ _, rfl⟩
    case o2d =>
     intro w' hb v1 hv1
     cases hv1
     show wpList _ _ _ _ _ _
     simp only [Grow.dstOf, zzp, Act.put]
     go_wp2_with fail
     refine (whole_z na nq E_nq.out (by omega) (by omega) w' (HT0.out.ext (ext_trans HW.out hb))).mono ?_
     rintro e wz ⟨rfl, hbz⟩
     go_wp2
     exact ⟨rfl, hbz, rfl⟩
    case o3d =>
     intro w' hb v1 hv1 v2 hv2
     cases hv1
     cases hv2
     show wpList _ _ _ _ _ _
     simp only [Grow.dstOf, zzp, Act.put]
     go_wp2_with fail
     refine (over_is ya nq mq E_mq.out (N_ya.out.fits (by omega) (by omega)) (N_nq.out.fits (by omega) (by omega)) HNZ.out (N_mq.out.fits (by omega) (by omega)) w' (HT0.out.ext (ext_trans HW.out hb))).mono ?_
     rintro e wz ⟨rfl, hbz⟩
     go_wp2
     exact ⟨rfl, hbz, rfl⟩
    case o4d =>
     intro w' hb
     show wpList _ _ _ _ _ _
     go_wp2
     exact ⟨⟨_, rfl, hb.size, RH.new _ _ _⟩, ext_alloc _ _, rfl⟩
    intro w6' hbz u0 hu0 u1 hu1 u2 hu2 u3 hu3 u4 hu4
    obtain rfl : u3 = _ := hu3
    have hg9 : ∃ g, u4 = .pointer (some ⟨g, 0, none⟩) ∧ X.heap.size ≤ g ∧ RH w6' g #[.string ⟨#[]⟩, .string ⟨#[]⟩] 24 := hu4
    clear hu0 hu1 hu2 hu4
    obtain ⟨b_d, rfl, hgY, hRg⟩ := hg9
    have lt_s_d : b_s < b_d := Nat.lt_of_lt_of_le HR_s.out.lt hgY
    have lt_y_d : b_y < b_d := Nat.lt_of_lt_of_le HR_y.out.lt hgY
    have le_d : w.heap.size ≤ b_d := Nat.le_trans HW.out.size hgY
    clear hgY
    replace HR_s := Lib.hid (HR_s.out.ext hbz)
    replace HR_y := Lib.hid (HR_y.out.ext hbz)
    replace HW := Lib.hid (ext_trans HW.out hbz)
    clear c_y_0 c_y_1
    clear hbz
    have HR_d : Hid (RH w6' b_d #[.string ⟨#[]⟩, .string ⟨#[]⟩] 24) := Lib.hid hRg
    clear hRg
    show wpList _ _ _ _ _ _
    simp only [Act.put, zzp]
    obtain ⟨c_d_0, c_d_1⟩ := zs2 HR_d.out
    have f_d_0 := HR_d.out.fre 0
    have f_d_1 := HR_d.out.fre 1
    go_upto_region 12 with (fail)
    obtain ⟨w7', hX⟩ : ∃ Z9, Z9 = ((w6'.setCell ⟨b_d, 0, none⟩ (.string (showN mq))).setCell ⟨b_d, 1, none⟩ (.string (showD mq))) := ⟨_, rfl⟩
    rw [← hX]
    have n_d : Hid (RH w7' b_d #[.string (showN mq), .string (showD mq)] 24) := by rw [hX]; exact Lib.hid (((HR_d.out).set 0 (.string (showN mq))).set 1 (.string (showD mq)))
    have n_s : Hid (RH w7' b_s #[.string (showN sl), .string (showD sl)] 24) := by rw [hX]; exact Lib.hid (zzo (zzo (HR_s.out) (by omega)) (by omega))
    have n_y : Hid (RH w7' b_y #[.string (showN ya), .string (showD ya)] 24) := by rw [hX]; exact Lib.hid (zzo (zzo (HR_y.out) (by omega)) (by omega))
    have HK_ : ∀ p : Addr, p.block ≠ b_d → w7'.cell? p = w6'.cell? p := fun p hp => by rw [hX]; exact (cs_other hp).trans (cs_other hp)
    have nW : Hid (Below w.heap.size w w7') := by rw [hX]; exact Lib.hid (zzw (zzw (HW.out) (by omega)) (by omega))
    clear c_d_0 c_d_1 f_d_0 f_d_1
    clear hX HK_ HW HR_s HR_y HR_d 
    have HR_s := n_s; clear n_s
    have HR_y := n_y; clear n_y
    have HR_d := n_d; clear n_d
    have HW := nW; clear nW
    clear HR_y
    have HGL : Hid (∀ (i : Nat) (m : MV), l[i]? = some m → (ajL (armL l))[i]? = some (ajE sl mq m.arm)) := Lib.hid (fun i m h => by unfold ajL armL; rw [List.getElem?_map, List.getElem?_map, h]; show some (ajE (slQ (armL l)) (mdQ (armL l)) m.arm) = _; rw [E_sl.out, HMD.out])
    have HPF : Hid (∀ (a9 : Option Addr) (c9 : Nat) (W9 : World), Sl W9 (.slice a9 l.length c9) l.length ((ajL (armL l)).flatMap evL) → Below w7'.heap.size w7' W9 → _) := Lib.hid (fun a9 c9 W9 h1 h2 => HPO.out a9 c9 W9 h1 (ext_trans HW.out h2))
    replace HS := Lib.hid (HS.out.ext HW.out)
    replace HT0 := Lib.hid (HT0.out.ext HW.out)
    clear HPO HW
    have HEO : Hid (EO w7' w7' (armL l) (.slice none 0 0) 0) := Lib.hid ⟨Below.refl _ _, World.ownsRow_nil _ _ _ _⟩
    go_wp2
    go_loopw [11, 45] (fun s i wr => ∃ k : Nat, k ≤ l.length ∧ i = .int .i64 (k : Int) ∧ Hid (EO w7' wr (armL l) s k)) (fun _ i _ => l.length - (intOf i).toNat)
    case atStart => exact ⟨0, by omega, rfl, HEO⟩
    case round =>
     clear HEO hk hlt
     obtain ⟨k, hk, rfl, HEO⟩ := hrel
     generalize hX : wr = X at *
     clear hX
     have HW := Lib.hid HEO.out.low
     by_cases hlt : k < l.length
     ·have n_HR_s := Lib.hid (HR_s.out.ext HW.out)
      clear HR_s
      have HR_s := n_HR_s
      clear n_HR_s
      have n_HR_d := Lib.hid (HR_d.out.ext HW.out)
      clear HR_d
      have HR_d := n_HR_d
      clear n_HR_d
      have hgk := List.getElem?_eq_getElem hlt
      have HOK := Lib.hid (HKO.out _ (List.getElem_mem hlt))
      have HQA := ra_arm HZ.out (List.getElem_mem hlt)
      have HGK := HGL.out k _ hgk
      have hn2 := HN2.out _ (List.getElem_mem hlt)
      generalize l[k] = mv at *
      obtain ⟨n, r⟩ := mv
      obtain ⟨pb, po, hp9, hcs⟩ := (HS.out.ext HW.out).elem (f := mnL) (fun _ => rfl) (by omega : 0 < 11) hgk
      subst hp9
      have e0 : X.cell? ⟨pb, po + k * 11, none⟩ = some (.int .i64 (n)) := hcs 0 _ rfl
      have e1 : X.cell? ⟨pb, po + k * 11 + 1, none⟩ = some (.string r.x.n) := hcs 1 _ rfl
      have e2 : X.cell? ⟨pb, po + k * 11 + 2, none⟩ = some (.string r.x.d) := hcs 2 _ rfl
      have e3 : X.cell? ⟨pb, po + k * 11 + 3, none⟩ = some (.string r.y.n) := hcs 3 _ rfl
      have e4 : X.cell? ⟨pb, po + k * 11 + 4, none⟩ = some (.string r.y.d) := hcs 4 _ rfl
      have e5 : X.cell? ⟨pb, po + k * 11 + 5, none⟩ = some (.string r.xx.n) := hcs 5 _ rfl
      have e6 : X.cell? ⟨pb, po + k * 11 + 6, none⟩ = some (.string r.xx.d) := hcs 6 _ rfl
      have e7 : X.cell? ⟨pb, po + k * 11 + 7, none⟩ = some (.string r.yy.n) := hcs 7 _ rfl
      have e8 : X.cell? ⟨pb, po + k * 11 + 8, none⟩ = some (.string r.yy.d) := hcs 8 _ rfl
      have e9 : X.cell? ⟨pb, po + k * 11 + 9, none⟩ = some (.string r.xy.n) := hcs 9 _ rfl
      have e10 : X.cell? ⟨pb, po + k * 11 + 10, none⟩ = some (.string r.xy.d) := hcs 10 _ rfl
      have hk0 : (0 : Int) ≤ (k : Int) := Int.natCast_nonneg _
      have hk1 : (k : Int) < (l.length : Int) := by omega
      have hk3 : (k : Int).toNat = k := by omega
      clear hcs hgk
      obtain ⟨⟨hn0, _, hn1⟩, _, hrq, hql, _⟩ := HQA
      simp only [MV.arm] at hn0 hn1 hrq hql HGK hn2
      obtain ⟨q, hq⟩ : ∃ z, r.q = z := ⟨_, rfl⟩
      rw [hq] at hql hrq HGK
      subst hrq
      clear hq
      have HQL := Lib.hid hql
      clear hql
      have HGK := Lib.hid HGK
      obtain ⟨m9, hm9⟩ : ∃ m, n - 1 = m := ⟨_, rfl⟩
      have hmw : IntKind.i64.wrap (n - 1) = m9 := (IntWalk.i64_in _ (by omega)).trans hm9
      have hmb : 1 ≤ m9 ∧ m9 ≤ 20000 := by omega
      have HM9 := Lib.hid hm9
      clear hm9
      obtain ⟨sq, h9⟩ : ∃ z : Rat, ((n : Int) : Rat) = z := ⟨_, rfl⟩
      have E_sq := Lib.hid h9
      have N_sq : Hid (Ln 5 0 sq) := Lib.hid (by rw [← h9]; exact (ln_n (by omega) hn1).mono (by omega) (by omega))
      clear h9
      obtain ⟨pq, h9⟩ : ∃ z : Rat, ((m9 : Int) : Rat) = z := ⟨_, rfl⟩
      have E_pq := Lib.hid h9
      have N_pq : Hid (Ln 5 0 pq) := Lib.hid (by rw [← h9]; exact (ln_n (by omega) (by omega)).mono (by omega) (by omega))
      clear h9
      have HSZ : Hid (sq ≠ 0) := Lib.hid (by rw [← E_sq.out]; exact n_ne (by omega))
      have HPZ : Hid (pq ≠ 0) := Lib.hid (by rw [← E_pq.out]; exact n_ne (by omega))
      obtain ⟨xq, hxq⟩ : ∃ z, q.x = z := ⟨_, rfl⟩
      obtain ⟨yq, hyq⟩ : ∃ z, q.y = z := ⟨_, rfl⟩
      have E_xq := Lib.hid hxq
      have E_yq := Lib.hid hyq
      have N_xq : Hid (Ln 100 0 xq) := Lib.hid (by rw [← hxq]; exact HQL.out.x)
      have N_yq : Hid (Ln 100 0 yq) := Lib.hid (by rw [← hyq]; exact HQL.out.y)
      clear hxq hyq
      obtain ⟨xd, h9⟩ : ∃ z : Rat, xq / sq = z := ⟨_, rfl⟩
      have E_xd := Lib.hid h9
      have N_xd : Hid (Ln 100 5 xd) := Lib.hid (by rw [← h9]; exact (Ln.div N_xq.out N_sq.out HSZ.out).mono (by omega) (by omega))
      clear h9
      obtain ⟨yd, h9⟩ : ∃ z : Rat, yq / sq = z := ⟨_, rfl⟩
      have E_yd := Lib.hid h9
      have N_yd : Hid (Ln 100 5 yd) := Lib.hid (by rw [← h9]; exact (Ln.div N_yq.out N_sq.out HSZ.out).mono (by omega) (by omega))
      clear h9
      obtain ⟨df, h9⟩ : ∃ z : Rat, yd - mq = z := ⟨_, rfl⟩
      have E_df := Lib.hid h9
      have N_df : Hid (Ln 127 11 df) := Lib.hid (by rw [← h9]; exact (Ln.sub N_yd.out N_mq.out).mono (by omega) (by omega))
      clear h9
      obtain ⟨kd, h9⟩ : ∃ z : Rat, sl * df = z := ⟨_, rfl⟩
      have E_kd := Lib.hid h9
      have N_kd : Hid (Ln 549 433 kd) := Lib.hid (by rw [← h9]; exact (Ln.mul N_sl.out N_df.out).mono (by omega) (by omega))
      clear h9
      obtain ⟨me, h9⟩ : ∃ z : Rat, xd - kd = z := ⟨_, rfl⟩
      have E_me := Lib.hid h9
      have N_me : Hid (Ln 560 438 me) := Lib.hid (by rw [← h9]; exact (Ln.sub N_xd.out N_kd.out).mono (by omega) (by omega))
      clear h9
      have HRL := rs_ln (n := n) (by omega) hn1 HQL.out (N_sl.out.mono (by omega) (by omega) : Ln 430 430 sl)
      obtain ⟨re, h9⟩ : ∃ z : Rat, rsQ sl ⟨n, q⟩ = z := ⟨_, rfl⟩
      have E_re := Lib.hid h9
      have N_re : Hid (Ln 1504 1305 re) := Lib.hid (by rw [← h9]; exact (HRL).mono (by omega) (by omega))
      clear h9
      clear HRL
      obtain ⟨nn, h9⟩ : ∃ z : Rat, sq * pq = z := ⟨_, rfl⟩
      have E_nn := Lib.hid h9
      have N_nn : Hid (Ln 10 0 nn) := Lib.hid (by rw [← h9]; exact (Ln.mul N_sq.out N_pq.out).mono (by omega) (by omega))
      clear h9
      have HNN : Hid (nn ≠ 0) := Lib.hid (by rw [← E_nn.out]; exact fun h => (Rat.mul_eq_zero.1 h).elim HSZ.out HPZ.out)
      obtain ⟨vq, h9⟩ : ∃ z : Rat, re / nn = z := ⟨_, rfl⟩
      have E_vq := Lib.hid h9
      have N_vq : Hid (Ln 1514 1315 vq) := Lib.hid (by rw [← h9]; exact (Ln.div N_re.out N_nn.out HNN.out).mono (by omega) (by omega))
      clear h9
      have HGE : Hid ((ajL (armL l))[k]? = some ⟨n, me, vq⟩) := Lib.hid (by
       rw [HGK.out]
       unfold ajE adM
       simp only [ajV_eq, HM9.out]
       rw [E_sq.out, E_pq.out, E_xq.out, E_yq.out, E_xd.out, E_yd.out, E_df.out, E_kd.out, E_me.out, E_re.out, E_nn.out, E_vq.out])
      clear HGK
      have n_HT := Lib.hid (HT0.out.ext HW.out)
      clear HT0
      have HT0 := n_HT
      clear n_HT HW
      obtain ⟨Z, hZ⟩ : ∃ Z9, Z9 = X := ⟨_, rfl⟩
      rw [← hZ] at HEO HT0
      have HW : Hid (Below Z.heap.size Z X) := by rw [hZ]; exact Lib.hid (Below.refl _ _)
      clear hZ
      go_upto_region 16 with (fail)
      refine wp_rows1 fun w8' hbz hR0 => ?_
      have lt_s_m : b_s < X.heap.size := HR_s.out.lt
      have lt_d_m : b_d < X.heap.size := HR_d.out.lt
      have le_m : Z.heap.size ≤ X.heap.size := HW.out.size
      replace HR_s := Lib.hid (HR_s.out.ext hbz)
      replace HR_d := Lib.hid (HR_d.out.ext hbz)
      replace HW := Lib.hid (ext_trans HW.out hbz)
      clear e0 e1 e2 e3 e4 e5 e6 e7 e8 e9 e10
      clear hbz
      have HR_m : Hid (RH w8' X.heap.size (mrA (n) q.r) 35) := Lib.hid hR0
      clear hR0
      generalize X.heap.size = b_m at *
      obtain ⟨c_m_0, c_m_1, c_m_2, c_m_3, c_m_4, -, -, -, -, -, -⟩ := zs11 HR_m.out
      go_wp2_with fail
      refine (whole_z n sq E_sq.out (by omega) (by omega) w8' (HT0.out.ext HW.out)).mono ?_
      rintro e w9' ⟨rfl, hbz⟩
      replace HR_s := Lib.hid (HR_s.out.ext hbz)
      replace HR_d := Lib.hid (HR_d.out.ext hbz)
      replace HR_m := Lib.hid (HR_m.out.ext hbz)
      replace HW := Lib.hid (ext_trans HW.out hbz)
      clear c_m_0 c_m_1 c_m_2 c_m_3 c_m_4
      clear hbz
      go_upto_region 17 with (fail)
      refine wp_rows1 fun w10' hbz hR0 => ?_
      have lt_s_n : b_s < w9'.heap.size := HR_s.out.lt
      have lt_d_n : b_d < w9'.heap.size := HR_d.out.lt
      have lt_m_n : b_m < w9'.heap.size := HR_m.out.lt
      have le_n : Z.heap.size ≤ w9'.heap.size := HW.out.size
      replace HR_s := Lib.hid (HR_s.out.ext hbz)
      replace HR_d := Lib.hid (HR_d.out.ext hbz)
      replace HR_m := Lib.hid (HR_m.out.ext hbz)
      replace HW := Lib.hid (ext_trans HW.out hbz)
      clear hbz
      have HR_n : Hid (RH w10' w9'.heap.size #[.string (showN sq), .string (showD sq)] 24) := Lib.hid hR0
      clear hR0
      generalize w9'.heap.size = b_n at *
      obtain ⟨c_m_0, c_m_1, c_m_2, c_m_3, c_m_4, -, -, -, -, -, -⟩ := zs11 HR_m.out
      obtain ⟨c_n_0, c_n_1⟩ := zs2 HR_n.out
      obtain ⟨c_s_0, c_s_1⟩ := zs2 HR_s.out
      obtain ⟨c_d_0, c_d_1⟩ := zs2 HR_d.out
      refine Grow.wp_region_grow 17 [TP.eq (.pointer (some ⟨b_m, 0, none⟩)), TP.eq (.int .i64 n), TP.eq (.pointer (some ⟨b_m, 1, none⟩)), TP.eq (rtV q.x), TP.eq (rtV sq), TP.eq (rtV xd), TP.eq (rtV sl), TP.eq (.pointer (some ⟨b_m, 3, none⟩)), TP.eq (rtV q.y), TP.eq (rtV sq), TP.eq (rtV yd), TP.eq (rtV mq), TP.eq (rtV df), TP.eq (rtV kd), TP.eq (rtV me), TP.eq (.agg #[.int .i64 n, .string (showN me), .string (showD me), .string ⟨#[]⟩, .string ⟨#[]⟩]), TP.row w10'.heap.size #[.int .i64 0, .string ⟨#[]⟩, .string ⟨#[]⟩, .string ⟨#[]⟩, .string ⟨#[]⟩] 33] [[], [0], [], [2], [], [3, 4], [], [], [7], [], [8, 9], [], [10, 11], [6, 12], [5, 13], [1, 14], []] (by kernel_rfl) (by kernel_rfl) ⟨?o0e, ?o1e, ?o2e, ?o3e, ?o4e, ?o5e, ?o6e, ?o7e, ?o8e, ?o9e, ?o10e, ?o11e, ?o12e, ?o13e, ?o14e, ?o15e, ?o16e, trivial⟩ ?_
      case o0e | o2e | o7e =>
       intro w' hb
       show wpList _ _ _ _ _ _
       go_wp2
       exact ⟨rfl, Below.refl _ _, rfl⟩
      case o1e =>
       intro w' hb v1 hv1
       cases hv1
       have c_m_0' := zzc hb c_m_0
       show wpList _ _ _ _ _ _
       simp only [Grow.dstOf, zzp, Act.put]
       go_wp2
       exact ⟨rfl, Below.refl _ _, rfl⟩
      case o3e | o8e =>
       intro w' hb v1 hv1
       cases hv1
       have c_m_1' := zzc hb c_m_1
       have c_m_2' := zzc hb c_m_2
       have c_m_3' := zzc hb c_m_3
       have c_m_4' := zzc hb c_m_4
       show wpList _ _ _ _ _ _
       simp only [Grow.dstOf, zzp, Act.put]
       go_wp2
       exact ⟨rfl, Below.refl _ _, rfl⟩
      case o4e | o6e | o9e | o11e =>
       intro w' hb
       have c_n_0' := zzc hb c_n_0
       have c_n_1' := zzc hb c_n_1
       have c_s_0' := zzc hb c_s_0
       have c_s_1' := zzc hb c_s_1
       have c_d_0' := zzc hb c_d_0
       have c_d_1' := zzc hb c_d_1
       show wpList _ _ _ _ _ _
       go_wp2
       exact ⟨rfl, Below.refl _ _, rfl⟩
      case o5e =>
       intro w' hb v1 hv1 v2 hv2
       cases hv1
       cases hv2
       show wpList _ _ _ _ _ _
       simp only [Grow.dstOf, zzp, Act.put]
       go_wp2_with fail
       refine (over_is q.x sq xd (by rw [E_xq.out]; exact E_xd.out) (by rw [E_xq.out]; exact (N_xq.out.fits (by omega) (by omega))) (N_sq.out.fits (by omega) (by omega)) HSZ.out (N_xd.out.fits (by omega) (by omega)) w' (HT0.out.ext (ext_trans HW.out hb))).mono ?_
       rintro e wz ⟨rfl, hbz⟩
       go_wp2
       exact ⟨rfl, hbz, rfl⟩
      case o10e =>
       intro w' hb v1 hv1 v2 hv2
       cases hv1
       cases hv2
       show wpList _ _ _ _ _ _
       simp only [Grow.dstOf, zzp, Act.put]
       go_wp2_with fail
       refine (over_is q.y sq yd (by rw [E_yq.out]; exact E_yd.out) (by rw [E_yq.out]; exact (N_yq.out.fits (by omega) (by omega))) (N_sq.out.fits (by omega) (by omega)) HSZ.out (N_yd.out.fits (by omega) (by omega)) w' (HT0.out.ext (ext_trans HW.out hb))).mono ?_
       rintro e wz ⟨rfl, hbz⟩
       go_wp2
       exact ⟨rfl, hbz, rfl⟩
      case o12e =>
       intro w' hb v1 hv1 v2 hv2
       cases hv1
       cases hv2
       show wpList _ _ _ _ _ _
       simp only [Grow.dstOf, zzp, Act.put]
       go_wp2_with fail
       refine (minus_is yd mq df E_df.out (N_yd.out.fits (by omega) (by omega)) (N_mq.out.fits (by omega) (by omega)) (N_df.out.fits (by omega) (by omega)) w' (HT0.out.ext (ext_trans HW.out hb))).mono ?_
       rintro e wz ⟨rfl, hbz⟩
       go_wp2
       exact ⟨rfl, hbz, rfl⟩
      case o13e =>
       intro w' hb v1 hv1 v2 hv2
       cases hv1
       cases hv2
       show wpList _ _ _ _ _ _
       simp only [Grow.dstOf, zzp, Act.put]
       go_wp2_with fail
       refine (times_is sl df kd E_kd.out (N_sl.out.fits (by omega) (by omega)) (N_df.out.fits (by omega) (by omega)) (N_kd.out.fits (by omega) (by omega)) w' (HT0.out.ext (ext_trans HW.out hb))).mono ?_
       rintro e wz ⟨rfl, hbz⟩
       go_wp2
       exact ⟨rfl, hbz, rfl⟩
      case o14e =>
       intro w' hb v1 hv1 v2 hv2
       cases hv1
       cases hv2
       show wpList _ _ _ _ _ _
       simp only [Grow.dstOf, zzp, Act.put]
       go_wp2_with fail
       refine (minus_is xd kd me E_me.out (N_xd.out.fits (by omega) (by omega)) (N_kd.out.fits (by omega) (by omega)) (N_me.out.fits (by omega) (by omega)) w' (HT0.out.ext (ext_trans HW.out hb))).mono ?_
       rintro e wz ⟨rfl, hbz⟩
       go_wp2
       exact ⟨rfl, hbz, rfl⟩
      case o15e =>
       intro w' hb v1 hv1 v2 hv2
       cases hv1
       cases hv2
       show wpList _ _ _ _ _ _
       simp only [Grow.dstOf, zzp, Act.put]
       go_wp2
       exact ⟨rfl, Below.refl _ _, rfl⟩
      case o16e =>
       intro w' hb
       show wpList _ _ _ _ _ _
       go_wp2
       exact ⟨⟨_, rfl, hb.size, RH.new _ _ _⟩, ext_alloc _ _, rfl⟩
      intro w11' hbz u0 hu0 u1 hu1 u2 hu2 u3 hu3 u4 hu4 u5 hu5 u6 hu6 u7 hu7 u8 hu8 u9 hu9 u10 hu10 u11 hu11 u12 hu12 u13 hu13 u14 hu14 u15 hu15 u16 hu16
      obtain rfl : u15 = _ := hu15
      have hg9 : ∃ g, u16 = .pointer (some ⟨g, 0, none⟩) ∧ w10'.heap.size ≤ g ∧ RH w11' g #[.int .i64 0, .string ⟨#[]⟩, .string ⟨#[]⟩, .string ⟨#[]⟩, .string ⟨#[]⟩] 33 := hu16
      clear hu0 hu1 hu2 hu3 hu4 hu5 hu6 hu7 hu8 hu9 hu10 hu11 hu12 hu13 hu14 hu16
      obtain ⟨b_o, rfl, hgY, hRg⟩ := hg9
      have lt_s_o : b_s < b_o := Nat.lt_of_lt_of_le HR_s.out.lt hgY
      have lt_d_o : b_d < b_o := Nat.lt_of_lt_of_le HR_d.out.lt hgY
      have lt_m_o : b_m < b_o := Nat.lt_of_lt_of_le HR_m.out.lt hgY
      have lt_n_o : b_n < b_o := Nat.lt_of_lt_of_le HR_n.out.lt hgY
      have le_o : Z.heap.size ≤ b_o := Nat.le_trans HW.out.size hgY
      clear hgY
      replace HR_s := Lib.hid (HR_s.out.ext hbz)
      replace HR_d := Lib.hid (HR_d.out.ext hbz)
      replace HR_m := Lib.hid (HR_m.out.ext hbz)
      replace HR_n := Lib.hid (HR_n.out.ext hbz)
      replace HW := Lib.hid (ext_trans HW.out hbz)
      clear c_m_0 c_m_1 c_m_2 c_m_3 c_m_4 c_n_0 c_n_1 c_s_0 c_s_1 c_d_0 c_d_1
      clear hbz
      have HR_o : Hid (RH w11' b_o #[.int .i64 0, .string ⟨#[]⟩, .string ⟨#[]⟩, .string ⟨#[]⟩, .string ⟨#[]⟩] 33) := Lib.hid hRg
      clear hRg
      show wpList _ _ _ _ _ _
      simp only [Act.put, zzp]
      obtain ⟨c_o_0, c_o_1, c_o_2, c_o_3, c_o_4⟩ := zs5 HR_o.out
      have f_o_0 := HR_o.out.fre 0
      have f_o_1 := HR_o.out.fre 1
      have f_o_2 := HR_o.out.fre 2
      have f_o_3 := HR_o.out.fre 3
      have f_o_4 := HR_o.out.fre 4
      go_upto_region 18 with (fail)
      obtain ⟨w12', hX⟩ : ∃ Z9, Z9 = (((((w11'.setCell ⟨b_o, 0, none⟩ (.int .i64 n)).setCell ⟨b_o, 1, none⟩ (.string (showN me))).setCell ⟨b_o, 2, none⟩ (.string (showD me))).setCell ⟨b_o, 3, none⟩ (.string ⟨#[]⟩)).setCell ⟨b_o, 4, none⟩ (.string ⟨#[]⟩)) := ⟨_, rfl⟩
      rw [← hX]
      have n_o : Hid (RH w12' b_o #[.int .i64 n, .string (showN me), .string (showD me), .string ⟨#[]⟩, .string ⟨#[]⟩] 33) := by rw [hX]; exact Lib.hid ((((((HR_o.out).set 0 (.int .i64 n)).set 1 (.string (showN me))).set 2 (.string (showD me))).set 3 (.string ⟨#[]⟩)).set 4 (.string ⟨#[]⟩))
      have n_s : Hid (RH w12' b_s #[.string (showN sl), .string (showD sl)] 24) := by rw [hX]; exact Lib.hid (zzo (zzo (zzo (zzo (zzo (HR_s.out) (by omega)) (by omega)) (by omega)) (by omega)) (by omega))
      have n_d : Hid (RH w12' b_d #[.string (showN mq), .string (showD mq)] 24) := by rw [hX]; exact Lib.hid (zzo (zzo (zzo (zzo (zzo (HR_d.out) (by omega)) (by omega)) (by omega)) (by omega)) (by omega))
      have n_m : Hid (RH w12' b_m (mrA (n) q.r) 35) := by rw [hX]; exact Lib.hid (zzo (zzo (zzo (zzo (zzo (HR_m.out) (by omega)) (by omega)) (by omega)) (by omega)) (by omega))
      have n_n : Hid (RH w12' b_n #[.string (showN sq), .string (showD sq)] 24) := by rw [hX]; exact Lib.hid (zzo (zzo (zzo (zzo (zzo (HR_n.out) (by omega)) (by omega)) (by omega)) (by omega)) (by omega))
      have HK_ : ∀ p : Addr, p.block ≠ b_o → w12'.cell? p = w11'.cell? p := fun p hp => by rw [hX]; exact (cs_other hp).trans ((cs_other hp).trans ((cs_other hp).trans ((cs_other hp).trans (cs_other hp))))
      have nW : Hid (Below Z.heap.size Z w12') := by rw [hX]; exact Lib.hid (zzw (zzw (zzw (zzw (zzw (HW.out) (by omega)) (by omega)) (by omega)) (by omega)) (by omega))
      clear c_o_0 c_o_1 c_o_2 c_o_3 c_o_4 f_o_0 f_o_1 f_o_2 f_o_3 f_o_4
      clear hX HK_ HW HR_s HR_d HR_m HR_n HR_o 
      have HR_s := n_s; clear n_s
      have HR_d := n_d; clear n_d
      have HR_m := n_m; clear n_m
      have HR_n := n_n; clear n_n
      have HR_o := n_o; clear n_o
      have HW := nW; clear nW
      obtain ⟨c_m_0, c_m_1, c_m_2, c_m_3, c_m_4, c_m_5, c_m_6, c_m_7, c_m_8, c_m_9, c_m_10⟩ := zs11 HR_m.out
      obtain ⟨c_n_0, c_n_1⟩ := zs2 HR_n.out
      obtain ⟨c_s_0, c_s_1⟩ := zs2 HR_s.out
      refine Grow.wp_region_grow 11 [TP.eq (.agg (mrA n q.r)), TP.eq (rtV sl), TP.eq (rtV re), TP.eq (rtV sq), TP.eq (.pointer (some ⟨b_m, 0, none⟩)), TP.eq (.int .i64 n), TP.eq (.int .i64 m9), TP.eq (rtV pq), TP.eq (rtV nn), TP.eq (rtV vq), TP.eq (.pointer (some ⟨b_o, 3, none⟩))] [[], [], [0, 1], [], [], [4], [5], [6], [3, 7], [2, 8], []] (by kernel_rfl) (by kernel_rfl) ⟨?o0v, ?o1v, ?o2v, ?o3v, ?o4v, ?o5v, ?o6v, ?o7v, ?o8v, ?o9v, ?o10v, trivial⟩ ?_
      case o0v | o1v | o3v =>
       intro w' hb
       have c_m_0' := zzc hb c_m_0
       have c_m_1' := zzc hb c_m_1
       have c_m_2' := zzc hb c_m_2
       have c_m_3' := zzc hb c_m_3
       have c_m_4' := zzc hb c_m_4
       have c_m_5' := zzc hb c_m_5
       have c_m_6' := zzc hb c_m_6
       have c_m_7' := zzc hb c_m_7
       have c_m_8' := zzc hb c_m_8
       have c_m_9' := zzc hb c_m_9
       have c_m_10' := zzc hb c_m_10
       have c_s_0' := zzc hb c_s_0
       have c_s_1' := zzc hb c_s_1
       have c_n_0' := zzc hb c_n_0
       have c_n_1' := zzc hb c_n_1
       show wpList _ _ _ _ _ _
       go_wp2
       exact ⟨rfl, Below.refl _ _, rfl⟩
      case o2v =>
       intro w' hb v1 hv1 v2 hv2
       cases hv1
       cases hv2
       show wpList _ _ _ _ _ _
       simp only [Grow.dstOf, zzp, Act.put]
       go_wp2_with fail
       refine ((by have h := residual_at n (by omega) hn1 q HQL.out sl (N_sl.out.mono (by omega) (by omega)) w' (HT0.out.ext (ext_trans HW.out hb)); rw [E_re.out] at h; exact h : Calls _ _ _ w' (RtP w' re))).mono ?_
       rintro e wz ⟨rfl, hbz⟩
       go_wp2
       exact ⟨rfl, hbz, rfl⟩
      case o4v | o10v =>
       intro w' hb
       show wpList _ _ _ _ _ _
       go_wp2
       exact ⟨rfl, Below.refl _ _, rfl⟩
      case o5v =>
       intro w' hb v1 hv1
       cases hv1
       have c_m_0' := zzc hb c_m_0
       show wpList _ _ _ _ _ _
       simp only [Grow.dstOf, zzp, Act.put]
       go_wp2
       exact ⟨rfl, Below.refl _ _, rfl⟩
      case o6v =>
       intro w' hb v1 hv1
       cases hv1
       show wpList _ _ _ _ _ _
       simp only [Grow.dstOf, zzp, Act.put]
       go_wp2
       exact ⟨rfl, Below.refl _ _, rfl⟩
      case o7v =>
       intro w' hb v1 hv1
       cases hv1
       show wpList _ _ _ _ _ _
       simp only [Grow.dstOf, zzp, Act.put]
       go_wp2_with fail
       refine (whole_z m9 pq E_pq.out (by omega) (by omega) w' (HT0.out.ext (ext_trans HW.out hb))).mono ?_
       rintro e wz ⟨rfl, hbz⟩
       go_wp2
       exact ⟨rfl, hbz, rfl⟩
      case o8v =>
       intro w' hb v1 hv1 v2 hv2
       cases hv1
       cases hv2
       show wpList _ _ _ _ _ _
       simp only [Grow.dstOf, zzp, Act.put]
       go_wp2_with fail
       refine (times_is sq pq nn E_nn.out (N_sq.out.fits (by omega) (by omega)) (N_pq.out.fits (by omega) (by omega)) (N_nn.out.fits (by omega) (by omega)) w' (HT0.out.ext (ext_trans HW.out hb))).mono ?_
       rintro e wz ⟨rfl, hbz⟩
       go_wp2
       exact ⟨rfl, hbz, rfl⟩
      case o9v =>
       intro w' hb v1 hv1 v2 hv2
       cases hv1
       cases hv2
       show wpList _ _ _ _ _ _
       simp only [Grow.dstOf, zzp, Act.put]
       go_wp2_with fail
       refine (over_is re nn vq E_vq.out (N_re.out.fits (by omega) (by omega)) (N_nn.out.fits (by omega) (by omega)) HNN.out (N_vq.out.fits (by omega) (by omega)) w' (HT0.out.ext (ext_trans HW.out hb))).mono ?_
       rintro e wz ⟨rfl, hbz⟩
       go_wp2
       exact ⟨rfl, hbz, rfl⟩
      intro w13' hbz u0 hu0 u1 hu1 u2 hu2 u3 hu3 u4 hu4 u5 hu5 u6 hu6 u7 hu7 u8 hu8 u9 hu9 u10 hu10
      obtain rfl : u9 = _ := hu9
      obtain rfl : u10 = _ := hu10
      clear hu0 hu1 hu2 hu3 hu4 hu5 hu6 hu7 hu8
      replace HR_s := Lib.hid (HR_s.out.ext hbz)
      replace HR_d := Lib.hid (HR_d.out.ext hbz)
      replace HR_m := Lib.hid (HR_m.out.ext hbz)
      replace HR_n := Lib.hid (HR_n.out.ext hbz)
      replace HR_o := Lib.hid (HR_o.out.ext hbz)
      replace HW := Lib.hid (ext_trans HW.out hbz)
      clear c_m_0 c_m_1 c_m_2 c_m_3 c_m_4 c_m_5 c_m_6 c_m_7 c_m_8 c_m_9 c_m_10 c_n_0 c_n_1 c_s_0 c_s_1
      clear hbz
      clear HR_m
      clear HR_n
      show wpList _ _ _ _ _ _
      simp only [Act.put, zzp]
      obtain ⟨-, -, -, c_o_3, c_o_4⟩ := zs5 HR_o.out
      have f_o_3 := HR_o.out.fre 3
      have f_o_4 := HR_o.out.fre 4
      go_upto_region 19 with (fail)
      obtain ⟨w14', hX⟩ : ∃ Z9, Z9 = ((w13'.setCell ⟨b_o, 3, none⟩ (.string (showN vq))).setCell ⟨b_o, 4, none⟩ (.string (showD vq))) := ⟨_, rfl⟩
      rw [← hX]
      have n_o : Hid (RH w14' b_o #[.int .i64 n, .string (showN me), .string (showD me), .string (showN vq), .string (showD vq)] 33) := by rw [hX]; exact Lib.hid (((HR_o.out).set 3 (.string (showN vq))).set 4 (.string (showD vq)))
      have n_s : Hid (RH w14' b_s #[.string (showN sl), .string (showD sl)] 24) := by rw [hX]; exact Lib.hid (zzo (zzo (HR_s.out) (by omega)) (by omega))
      have n_d : Hid (RH w14' b_d #[.string (showN mq), .string (showD mq)] 24) := by rw [hX]; exact Lib.hid (zzo (zzo (HR_d.out) (by omega)) (by omega))
      have HK_ : ∀ p : Addr, p.block ≠ b_o → w14'.cell? p = w13'.cell? p := fun p hp => by rw [hX]; exact (cs_other hp).trans (cs_other hp)
      have nW : Hid (Below Z.heap.size Z w14') := by rw [hX]; exact Lib.hid (zzw (zzw (HW.out) (by omega)) (by omega))
      clear c_o_3 c_o_4 f_o_3 f_o_4
      clear hX HK_ HW HR_s HR_d HR_o 
      have HR_s := n_s; clear n_s
      have HR_d := n_d; clear n_d
      have HR_o := n_o; clear n_o
      have HW := nW; clear nW
      obtain ⟨c_o_0, c_o_1, c_o_2, c_o_3, c_o_4⟩ := zs5 HR_o.out
      have HRA := Lib.hid (HEO.out.ext (ext_trans HW.out (ext_alloc w14' (.cells #[.int .i64 n, .string (showN me), .string (showD me), .string (showN vq), .string (showD vq)] 33))))
      have hk2 : k + 1 ≤ maxLen := by unfold maxLen; omega
      go_wp2_with (at_builtin; refine wpList_append_sl rfl _ _ 28 rfl w7'.heap.size 33 Tryz.underlying28 HI.out rfl (by decide) rfl HRA.out.own rfl (Sl.new w14' #[.int .i64 n, .string (showN me), .string (showD me), .string (showN vq), .string (showD vq)] _ 1 1 (by omega) (by decide)) rfl (by intro u hu; simp at hu; rcases hu with rfl | rfl | rfl | rfl | rfl <;> rfl) hk2 (by omega) HRA.out.low.size ?_; intro v7 w7 hown7 hg7 _; have HX7 := Lib.hid (HRA.out.push HGE.out hown7 hg7); clear hown7 hg7)
      go_roundw
      case rel => exact ⟨k + 1, by omega, by go_num, HX7⟩
      case measure => simp [intOf]; omega
     ·obtain rfl : k = l.length := by omega
      have HO := Lib.hid (Sl.ofOwn HEO.out.own)
      have e9 : (ajL (armL l)).take l.length = ajL (armL l) := by rw [← HLA.out]; unfold ajL; rw [← List.length_map (f := ajE (slQ (armL l)) (mdQ (armL l))), List.take_length]
      rw [e9] at HO
      clear e9
      obtain ⟨a9, c9, hv9, _⟩ := id HO.out
      subst hv9
      go_wp2
      exact bodyPost_ret (v := .tuple #[.slice a9 l.length c9, .int .i64 0]) (by simp [results, Tryz.results8, go_sem]) rfl (HPF.out a9 c9 _ HO.out HW.out)
 ·have hne2 : (raF 2 l != 0) = true := by simp [hz]
  have HNE := Lib.hid hz
  clear hz
  go_wp2
  exact bodyPost_ret (v := .tuple #[.slice none 0 0, .int .i64 (raF 2 l)]) (by simp [results, Tryz.results8, go_sem]) rfl (AjPost.bad rfl HNE.out HW.out)
end Nt
end Go.Proofs.YtlbnjgnbpiidaaaGreatDoor
