/- arms, residual, slope and Slope of the reference. Printed by gen_radja.py. -/
import Derived.Test.YtlbnjgnbpiidaaaGreatDoorB828
import Derived.Test.YtlbnjgnbpiidaaaGreatDoorB836
import Derived.Test.YtlbnjgnbpiidaaaGreatDoorB800
import Derived.Test.YtlbnjgnbpiidaaaGreatDoorB829
import Derived.Test.YtlbnjgnbpiidaaaGreatDoorB813
import Derived.Test.YtlbnjgnbpiidaaaGreatDoorB827
import Derived.Test.YtlbnjgnbpiidaaaGreatDoorProg
import Derived.Test.YtlbnjgnbpiidaaaGreatDoorB801
import Derived.Test.YtlbnjgnbpiidaaaGreatDoorB802
import Derived.Test.YtlbnjgnbpiidaaaGreatDoorB803
import Derived.Test.YtlbnjgnbpiidaaaGreatDoorB804
import Derived.Test.YtlbnjgnbpiidaaaGreatDoorB805
import Derived.Test.YtlbnjgnbpiidaaaGreatDoorB806
import Derived.Test.YtlbnjgnbpiidaaaGreatDoorB807
import Derived.Test.YtlbnjgnbpiidaaaGreatDoorB808
import Derived.Test.YtlbnjgnbpiidaaaGreatDoorB809
import Derived.Test.YtlbnjgnbpiidaaaGreatDoorB810
import Derived.Test.YtlbnjgnbpiidaaaGreatDoorB811
import Derived.Test.YtlbnjgnbpiidaaaGreatDoorB830
import Derived.Test.YtlbnjgnbpiidaaaGreatDoorB831
import Derived.Test.YtlbnjgnbpiidaaaGreatDoorB832
import Derived.Test.YtlbnjgnbpiidaaaGreatDoorB833
import Derived.Test.YtlbnjgnbpiidaaaGreatDoorB835
import Derived.Test.YtlbnjgnbpiidaaaGreatDoorB843
namespace Go.Proofs.YtlbnjgnbpiidaaaGreatDoor
open Go.RowKit
namespace Nt
open _root_.Go.Proofs.YtlbnjgnbpiidaaaGreatDoor.Nm (tl_lit rF rQ showN showD Fits show_size cutS cutS_size cutB cut_show cmpQ RT rtL rtOk trimPrefix_at tail_none Ln QL QF QS Q5 R5 shR mrA mr_info NoW noW_all BF cs_other wp_rows1 wp_rows2 wp_rows3 wp_rows4 smF smL smL_step sm_five momF posB posB1 posB_steps zerB dfA dfB dfC df_ln ln_n n_ne fits_int i64_ten BPost FPost spA spB spC sp_ln atF at_parts mom_parts vrQ rtC fq fr fr_get R5.ok_at rat_neg MV MV.arm mnL armL armsF armsF_step fewL fewL_step raF ra_parts ra_arm Arm aB aC aB_take aC_take aB_ok aC_ok ApOk ArmsOk arms_ok slQ sl_ln rsQ TP.row rtN rtD nF rtN_0 rtD_0 nF_0 rtN_no rtD_no nF_no meQ RqPost EsPost mom_ql at_ql)
set_option maxRecDepth 100000 in
set_option maxHeartbeats 16000000 in
theorem arms_at (lc : Int) (l : List MV) (a : Option Addr) (c : Nat) (w : World) (hs : Sl w (.slice a l.length c) l.length (l.flatMap mnL)) (hok : ∀ m ∈ l, m.r.ok) (ht : Tab w) : Calls Tryz.prog 23 #[.slice a l.length c, .int .i64 lc] w (FPost w (raF lc l)) := by
 have HS := Lib.hid hs
 have HKO := Lib.hid hok
 clear hs hok
 go_enter Tryz.func23, Tryz.ntmps23
 have HT0 := Lib.hid ht
 clear ht
 have HW : Hid (Below w.heap.size w w) := Lib.hid (Below.refl _ _)
 by_cases h0 : l.length = 0
 ·have HV : Hid (raF lc l = 9) := Lib.hid (by unfold raF; rw [if_pos h0])
  rw [h0]
  clear h0
  go_wp2
  exact bodyPost_ret (v := .int .i64 9) (by simp [results, Tryz.results23, go_sem]) rfl ⟨by rw [HV.out], HW.out⟩
 ·by_cases h1 : 20 < l.length
  ·have HV : Hid (raF lc l = 2) := Lib.hid (by unfold raF; rw [if_neg h0, if_pos h1])
   have hl0 : ¬ (l.length : Int) = 0 := by omega
   have hl1 : (20 : Int) < (l.length : Int) := by omega
   clear h0 h1
   go_wp2
   exact bodyPost_ret (v := .int .i64 2) (by simp [results, Tryz.results23, go_sem]) rfl ⟨by rw [HV.out], HW.out⟩
  ·have HV0 : Hid (raF lc l = if armsF l ≠ 0 then armsF l else if fewL lc l = true then 9 else 0) := Lib.hid (by unfold raF; rw [if_neg h0, if_neg h1])
   have hl0 : ¬ (l.length : Int) = 0 := by omega
   have hl1 : ¬ (20 : Int) < (l.length : Int) := by omega
   have hl20 : l.length ≤ 20 := by omega
   clear h0 h1
   go_wp2
   clear hl0 hl1
   go_loopw [7, 20] (fun _ i wr => ∃ k : Nat, k ≤ l.length ∧ i = .int .i64 (k : Int) ∧ Hid (armsF l = armsF (l.drop k)) ∧ (Below w.heap.size w wr)) (fun _ i _ => l.length - (intOf i).toNat)
   case atStart => exact ⟨0, by omega, rfl, rfl, HW.out⟩
   case round =>
    obtain ⟨k, hk, rfl, HK, q_HW⟩ := hrel
    clear HW
    have HW := Lib.hid q_HW
    clear q_HW
    generalize hX : wr = X at *
    clear hX
    by_cases hlt : k < l.length
    ·have hgk := List.getElem?_eq_getElem hlt
     have HOK := Lib.hid (HKO.out _ (List.getElem_mem hlt))
     have HST := Lib.hid (armsF_step hlt)
     generalize l[k] = mv at *
     obtain ⟨n, r⟩ := mv
     obtain ⟨pb, po, hp9, hcs⟩ := (HS.out.ext HW.out).elem (f := mnL) (fun _ => rfl) (by omega : 0 < 11) hgk
     subst hp9
     have e0 : X.cell? ⟨pb, po + k * 11, none⟩ = some (.int .i64 (n)) := hcs 0 _ rfl
     have e1 : X.cell? ⟨pb, po + k * 11 + 1, none⟩ = some (.string r.x.n) := hcs 1 _ rfl
     have e2 : X.cell? ⟨pb, po + k * 11 + 2, none⟩ = some (.string r.x.d) := hcs 2 _ rfl
     have e3 : X.cell? ⟨pb, po + k * 11 + 3, none⟩ = some (.string r.y.n) := hcs 3 _ rfl
     have e4 : X.cell? ⟨pb, po + k * 11 + 4, none⟩ = some (.string r.y.d) := hcs 4 _ rfl
     have e5 : X.cell? ⟨pb, po + k * 11 + 5, none⟩ = some (.string r.xx.n) := hcs 5 _ rfl
     have e6 : X.cell? ⟨pb, po + k * 11 + 6, none⟩ = some (.string r.xx.d) := hcs 6 _ rfl
     have e7 : X.cell? ⟨pb, po + k * 11 + 7, none⟩ = some (.string r.yy.n) := hcs 7 _ rfl
     have e8 : X.cell? ⟨pb, po + k * 11 + 8, none⟩ = some (.string r.yy.d) := hcs 8 _ rfl
     have e9 : X.cell? ⟨pb, po + k * 11 + 9, none⟩ = some (.string r.xy.n) := hcs 9 _ rfl
     have e10 : X.cell? ⟨pb, po + k * 11 + 10, none⟩ = some (.string r.xy.d) := hcs 10 _ rfl
     have hk0 : (0 : Int) ≤ (k : Int) := Int.natCast_nonneg _
     have hk1 : (k : Int) < (l.length : Int) := by omega
     have hk3 : (k : Int).toNat = k := by omega
     clear hcs hgk
     go_upto_region 8 with (fail)
     refine wp_rows1 fun w1' hbz hR0 => ?_
     have le_m : w.heap.size ≤ X.heap.size := HW.out.size
     replace HW := Lib.hid (ext_trans HW.out hbz)
     clear e0 e1 e2 e3 e4 e5 e6 e7 e8 e9 e10
     clear hbz
     have HR_m : Hid (RH w1' X.heap.size (mrA (n) r) 35) := Lib.hid hR0
     clear hR0
     generalize X.heap.size = b_m at *
     go_wp2_with (first | (refine wpList_load_row rfl _ _ rfl b_m rfl _ (mrA (n) r) _ _ HR_m.out Tryz.underlying35 rfl (mr_info _ _) ?_))
     refine (refCheckMom_at n r HOK.out w1' (HT0.out.ext HW.out)).mono ?_
     rintro e w2' ⟨rfl, hbz⟩
     replace HR_m := Lib.hid (HR_m.out.ext hbz)
     replace HW := Lib.hid (ext_trans HW.out hbz)
     clear hbz
     clear HR_m
     obtain ⟨f9, hf9⟩ : ∃ z, momF n r = z := ⟨_, rfl⟩
     simp only [hf9] at HST ⊢
     clear hf9
     by_cases hz : f9 = 0
     ·have hne : (f9 != 0) = false := by simp [hz]
      have HN : Hid (armsF l = armsF (l.drop (k + 1))) := Lib.hid (by rw [HK.out, HST.out, if_neg (fun h => h hz)])
      clear hz HST
      go_wp2
      go_roundw
      case rel => exact ⟨k + 1, by omega, by go_num, HN, HW.out⟩
      case measure => simp [intOf]; omega
     ·have hne : (f9 != 0) = true := by simp [hz]
      have HV : Hid (raF lc l = f9) := Lib.hid (by
       have e : armsF l = f9 := by rw [HK.out, HST.out, if_pos hz]
       rw [HV0.out, e, if_pos hz])
      clear hz
      go_wp2
      exact bodyPost_ret (v := .int .i64 f9) (by simp [results, Tryz.results23, go_sem]) rfl ⟨by rw [HV.out], HW.out⟩
    ·have HV1 : Hid (armsF l = 0) := Lib.hid (by rw [HK.out, List.drop_of_length_le (show l.length ≤ k by omega)]; rfl)
     have HV2 : Hid (raF lc l = if fewL lc l = true then 9 else 0) := Lib.hid (by rw [HV0.out, if_neg (fun h => h HV1.out)])
     clear HK HV0 HV1
     go_wp2
     clear hk hlt
     go_loopw [32] (fun i wr => ∃ k : Nat, k ≤ l.length ∧ i = .int .i64 (k : Int) ∧ Hid (fewL lc l = fewL lc (l.drop k)) ∧ (Below w.heap.size w wr)) (fun i _ => l.length - (intOf i).toNat)
     case atStart => exact ⟨0, by omega, rfl, rfl, HW.out⟩
     case round =>
      obtain ⟨k, hk, rfl, HK, q_HW⟩ := hrel
      clear HW
      have HW := Lib.hid q_HW
      clear q_HW
      generalize hX : wr = Y at *
      clear hX
      by_cases hlt : k < l.length
      ·have hgk := List.getElem?_eq_getElem hlt
       have HOK := Lib.hid (HKO.out _ (List.getElem_mem hlt))
       have HST := Lib.hid (fewL_step lc hlt)
       generalize l[k] = mv at *
       obtain ⟨n, r⟩ := mv
       obtain ⟨pb, po, hp9, hcs⟩ := (HS.out.ext HW.out).elem (f := mnL) (fun _ => rfl) (by omega : 0 < 11) hgk
       subst hp9
       have e0 : Y.cell? ⟨pb, po + k * 11, none⟩ = some (.int .i64 (n)) := hcs 0 _ rfl
       have e1 : Y.cell? ⟨pb, po + k * 11 + 1, none⟩ = some (.string r.x.n) := hcs 1 _ rfl
       have e2 : Y.cell? ⟨pb, po + k * 11 + 2, none⟩ = some (.string r.x.d) := hcs 2 _ rfl
       have e3 : Y.cell? ⟨pb, po + k * 11 + 3, none⟩ = some (.string r.y.n) := hcs 3 _ rfl
       have e4 : Y.cell? ⟨pb, po + k * 11 + 4, none⟩ = some (.string r.y.d) := hcs 4 _ rfl
       have e5 : Y.cell? ⟨pb, po + k * 11 + 5, none⟩ = some (.string r.xx.n) := hcs 5 _ rfl
       have e6 : Y.cell? ⟨pb, po + k * 11 + 6, none⟩ = some (.string r.xx.d) := hcs 6 _ rfl
       have e7 : Y.cell? ⟨pb, po + k * 11 + 7, none⟩ = some (.string r.yy.n) := hcs 7 _ rfl
       have e8 : Y.cell? ⟨pb, po + k * 11 + 8, none⟩ = some (.string r.yy.d) := hcs 8 _ rfl
       have e9 : Y.cell? ⟨pb, po + k * 11 + 9, none⟩ = some (.string r.xy.n) := hcs 9 _ rfl
       have e10 : Y.cell? ⟨pb, po + k * 11 + 10, none⟩ = some (.string r.xy.d) := hcs 10 _ rfl
       have hk0 : (0 : Int) ≤ (k : Int) := Int.natCast_nonneg _
       have hk1 : (k : Int) < (l.length : Int) := by omega
       have hk3 : (k : Int).toNat = k := by omega
       clear hcs hgk
       go_upto_region 15 with (fail)
       refine wp_rows1 fun w1' hbz hR0 => ?_
       have le_m : w.heap.size ≤ Y.heap.size := HW.out.size
       replace HW := Lib.hid (ext_trans HW.out hbz)
       clear e0 e1 e2 e3 e4 e5 e6 e7 e8 e9 e10
       clear hbz
       have HR_m : Hid (RH w1' Y.heap.size (mrA (n) r) 35) := Lib.hid hR0
       clear hR0
       generalize Y.heap.size = b_m at *
       obtain ⟨c_m_0, -, -, -, -, -, -, -, -, -, -⟩ := zs11 HR_m.out
       by_cases hlc : n < lc
       ·have HV : Hid (raF lc l = 9) := Lib.hid (by rw [HV2.out, if_pos (by rw [HK.out, HST.out]; simp [hlc])])
        go_wp2
        exact bodyPost_ret (v := .int .i64 9) (by simp [results, Tryz.results23, go_sem]) rfl ⟨by rw [HV.out], HW.out⟩
       ·have HN : Hid (fewL lc l = fewL lc (l.drop (k + 1))) := Lib.hid (by rw [HK.out, HST.out]; simp [hlc])
        go_wp2
        clear HR_m
        clear c_m_0
        go_roundw
        case rel => exact ⟨k + 1, by omega, by go_num, HN, HW.out⟩
        case measure => simp [intOf]; omega
      ·have HV : Hid (raF lc l = 0) := Lib.hid (by rw [HV2.out, if_neg (by rw [HK.out, List.drop_of_length_le (show l.length ≤ k by omega)]; simp [fewL])])
       go_wp2
       exact bodyPost_ret (v := .int .i64 0) (by simp [results, Tryz.results23, go_sem]) rfl ⟨by rw [HV.out], HW.out⟩
set_option maxRecDepth 100000 in
set_option maxHeartbeats 16000000 in
theorem residual_at (n : Int) (h0 : 1 ≤ n) (h1 : n ≤ 20000) (q : Q5) (hq : QL q) (s : Rat) (hsl : Ln 430 430 s) (w : World) (ht : Tab w) : Calls Tryz.prog 37 #[.agg (mrA n q.r), rtV s] w (RtP w (rsQ s ⟨n, q⟩)) := by
 have HQL := Lib.hid hq
 have hn0 := h0
 have hn1 := h1
 have N_s := Lib.hid hsl
 clear hq h0 h1 hsl
 obtain ⟨aq, h9⟩ : ∃ z : Rat, spA n q = z := ⟨_, rfl⟩
 have E_aq := Lib.hid h9
 have N_aq : Hid (Ln 201 5 aq) := Lib.hid (by rw [← h9]; exact (HQL.out.spA hn0 hn1).mono (by omega) (by omega))
 clear h9
 obtain ⟨bq, h9⟩ : ∃ z : Rat, spB n q = z := ⟨_, rfl⟩
 have E_bq := Lib.hid h9
 have N_bq : Hid (Ln 201 5 bq) := Lib.hid (by rw [← h9]; exact (HQL.out.spB hn0 hn1).mono (by omega) (by omega))
 clear h9
 obtain ⟨cq, h9⟩ : ∃ z : Rat, spC n q = z := ⟨_, rfl⟩
 have E_cq := Lib.hid h9
 have N_cq : Hid (Ln 201 5 cq) := Lib.hid (by rw [← h9]; exact (HQL.out.spC hn0 hn1).mono (by omega) (by omega))
 clear h9
 obtain ⟨two, h9⟩ : ∃ z : Rat, ((2 : Int) : Rat) = z := ⟨_, rfl⟩
 have E_two := Lib.hid h9
 have N_two : Hid (Ln 1 0 two) := Lib.hid (by rw [← h9]; exact (Ln.int (z := 2) (a := 1) (by decide)).mono (by omega) (by omega))
 clear h9
 obtain ⟨sc, h9⟩ : ∃ z : Rat, s * cq = z := ⟨_, rfl⟩
 have E_sc := Lib.hid h9
 have N_sc : Hid (Ln 631 435 sc) := Lib.hid (by rw [← h9]; exact (Ln.mul N_s.out N_cq.out).mono (by omega) (by omega))
 clear h9
 obtain ⟨tc, h9⟩ : ∃ z : Rat, two * sc = z := ⟨_, rfl⟩
 have E_tc := Lib.hid h9
 have N_tc : Hid (Ln 632 435 tc) := Lib.hid (by rw [← h9]; exact (Ln.mul N_two.out N_sc.out).mono (by omega) (by omega))
 clear h9
 obtain ⟨d1, h9⟩ : ∃ z : Rat, aq - tc = z := ⟨_, rfl⟩
 have E_d1 := Lib.hid h9
 have N_d1 : Hid (Ln 638 440 d1) := Lib.hid (by rw [← h9]; exact (Ln.sub N_aq.out N_tc.out).mono (by omega) (by omega))
 clear h9
 obtain ⟨sb, h9⟩ : ∃ z : Rat, s * bq = z := ⟨_, rfl⟩
 have E_sb := Lib.hid h9
 have N_sb : Hid (Ln 631 435 sb) := Lib.hid (by rw [← h9]; exact (Ln.mul N_s.out N_bq.out).mono (by omega) (by omega))
 clear h9
 obtain ⟨sd, h9⟩ : ∃ z : Rat, s * sb = z := ⟨_, rfl⟩
 have E_sd := Lib.hid h9
 have N_sd : Hid (Ln 1061 865 sd) := Lib.hid (by rw [← h9]; exact (Ln.mul N_s.out N_sb.out).mono (by omega) (by omega))
 clear h9
 obtain ⟨re, h9⟩ : ∃ z : Rat, d1 + sd = z := ⟨_, rfl⟩
 have E_re := Lib.hid h9
 have N_re : Hid (Ln 1504 1305 re) := Lib.hid (by rw [← h9]; exact (Ln.add N_d1.out N_sd.out).mono (by omega) (by omega))
 clear h9
 have HRE : Hid (rsQ s ⟨n, q⟩ = re) := Lib.hid (by
  have e2 : (2 : Rat) = two := E_two.out
  unfold rsQ
  simp only [E_aq.out, E_bq.out, E_cq.out]
  rw [e2, E_sc.out, E_tc.out, E_d1.out, E_sb.out, E_sd.out, E_re.out])
 go_enter Tryz.func37, Tryz.ntmps37
 have HT0 := Lib.hid ht
 clear ht
 go_upto_region 1 with (fail)
 refine wp_rows3 fun w1' hbz hR0 hR1 hR2 => ?_
 have HR_m : Hid (RH w1' w.heap.size (mrA (n) q.r) 35) := Lib.hid hR0
 have HR_s : Hid (RH w1' (w.heap.size + 1) #[.string (showN s), .string (showD s)] 24) := Lib.hid hR1
 have HR_o : Hid (RH w1' (w.heap.size + 2) #[.string ⟨#[]⟩, .string ⟨#[]⟩] 24) := Lib.hid hR2
 have HW := Lib.hid hbz
 clear hbz hR0 hR1 hR2
 go_wp2_with (first | (refine wpList_load_row rfl _ _ rfl w.heap.size rfl _ (mrA (n) q.r) _ _ HR_m.out Tryz.underlying35 rfl (mr_info _ _) ?_))
 refine (around_at n hn0 hn1 q HQL.out w1' (HT0.out.ext HW.out)).mono ?_
 rintro e w2' ⟨rfl, hbz⟩
 rw [E_aq.out, E_bq.out, E_cq.out]
 replace HR_m := Lib.hid (HR_m.out.ext hbz)
 replace HR_s := Lib.hid (HR_s.out.ext hbz)
 replace HR_o := Lib.hid (HR_o.out.ext hbz)
 replace HW := Lib.hid (ext_trans HW.out hbz)
 clear hbz
 clear HR_m
 go_upto_region 2 with (fail)
 refine wp_rows3 fun w3' hbz hR0 hR1 hR2 => ?_
 have lt_s_x : (w.heap.size + 1) < w2'.heap.size := HR_s.out.lt
 have lt_o_x : (w.heap.size + 2) < w2'.heap.size := HR_o.out.lt
 have le_x : w.heap.size ≤ w2'.heap.size := HW.out.size
 replace HR_s := Lib.hid (HR_s.out.ext hbz)
 replace HR_o := Lib.hid (HR_o.out.ext hbz)
 replace HW := Lib.hid (ext_trans HW.out hbz)
 clear hbz
 have HR_x : Hid (RH w3' w2'.heap.size #[.string (showN aq), .string (showD aq)] 24) := Lib.hid hR0
 have HR_y : Hid (RH w3' (w2'.heap.size + 1) #[.string (showN bq), .string (showD bq)] 24) := Lib.hid hR1
 have HR_z : Hid (RH w3' (w2'.heap.size + 2) #[.string (showN cq), .string (showD cq)] 24) := Lib.hid hR2
 clear hR0 hR1 hR2
 generalize w2'.heap.size = b_x at *
 obtain ⟨c_x_0, c_x_1⟩ := zs2 HR_x.out
 obtain ⟨c_y_0, c_y_1⟩ := zs2 HR_y.out
 obtain ⟨c_z_0, c_z_1⟩ := zs2 HR_z.out
 obtain ⟨c_s_0, c_s_1⟩ := zs2 HR_s.out
 refine Grow.wp_region_grow 13 [TP.eq (rtV aq), TP.eq (rtV two), TP.eq (rtV s), TP.eq (rtV cq), TP.eq (rtV sc), TP.eq (rtV tc), TP.eq (rtV d1), TP.eq (rtV s), TP.eq (rtV s), TP.eq (rtV bq), TP.eq (rtV sb), TP.eq (rtV sd), TP.eq (rtV re)] [[], [], [], [], [2, 3], [1, 4], [0, 5], [], [], [], [8, 9], [7, 10], [6, 11]] (by kernel_rfl) (by kernel_rfl) ⟨?o0r, ?o1r, ?o2r, ?o3r, ?o4r, ?o5r, ?o6r, ?o7r, ?o8r, ?o9r, ?o10r, ?o11r, ?o12r, trivial⟩ ?_
 case o0r | o2r | o3r | o7r | o8r | o9r =>
  intro w' hb
  have c_x_0' := zzc hb c_x_0
  have c_x_1' := zzc hb c_x_1
  have c_s_0' := zzc hb c_s_0
  have c_s_1' := zzc hb c_s_1
  have c_z_0' := zzc hb c_z_0
  have c_z_1' := zzc hb c_z_1
  have c_y_0' := zzc hb c_y_0
  have c_y_1' := zzc hb c_y_1
  show wpList _ _ _ _ _ _
  go_wp2
  exact ⟨rfl, Below.refl _ _, rfl⟩
 case o1r =>
  intro w' hb
  show wpList _ _ _ _ _ _
  go_wp2_with fail
  refine (whole_z 2 two E_two.out (by decide) (by decide) w' (HT0.out.ext (ext_trans HW.out hb))).mono ?_
  rintro e wz ⟨rfl, hbz⟩
  go_wp2
  exact ⟨rfl, hbz, rfl⟩
 case o4r =>
  intro w' hb v1 hv1 v2 hv2
  cases hv1
  cases hv2
  show wpList _ _ _ _ _ _
  simp only [Grow.dstOf, zzp, Act.put]
  go_wp2_with fail
  refine (times_is s cq sc E_sc.out (N_s.out.fits (by omega) (by omega)) (N_cq.out.fits (by omega) (by omega)) (N_sc.out.fits (by omega) (by omega)) w' (HT0.out.ext (ext_trans HW.out hb))).mono ?_
  rintro e wz ⟨rfl, hbz⟩
  go_wp2
  exact ⟨rfl, hbz, rfl⟩
 case o5r =>
  intro w' hb v1 hv1 v2 hv2
  cases hv1
  cases hv2
  show wpList _ _ _ _ _ _
  simp only [Grow.dstOf, zzp, Act.put]
  go_wp2_with fail
  refine (times_is two sc tc E_tc.out (N_two.out.fits (by omega) (by omega)) (N_sc.out.fits (by omega) (by omega)) (N_tc.out.fits (by omega) (by omega)) w' (HT0.out.ext (ext_trans HW.out hb))).mono ?_
  rintro e wz ⟨rfl, hbz⟩
  go_wp2
  exact ⟨rfl, hbz, rfl⟩
 case o6r =>
  intro w' hb v1 hv1 v2 hv2
  cases hv1
  cases hv2
  show wpList _ _ _ _ _ _
  simp only [Grow.dstOf, zzp, Act.put]
  go_wp2_with fail
  refine (minus_is aq tc d1 E_d1.out (N_aq.out.fits (by omega) (by omega)) (N_tc.out.fits (by omega) (by omega)) (N_d1.out.fits (by omega) (by omega)) w' (HT0.out.ext (ext_trans HW.out hb))).mono ?_
  rintro e wz ⟨rfl, hbz⟩
  go_wp2
  exact ⟨rfl, hbz, rfl⟩
 case o10r =>
  intro w' hb v1 hv1 v2 hv2
  cases hv1
  cases hv2
  show wpList _ _ _ _ _ _
  simp only [Grow.dstOf, zzp, Act.put]
  go_wp2_with fail
  refine (times_is s bq sb E_sb.out (N_s.out.fits (by omega) (by omega)) (N_bq.out.fits (by omega) (by omega)) (N_sb.out.fits (by omega) (by omega)) w' (HT0.out.ext (ext_trans HW.out hb))).mono ?_
  rintro e wz ⟨rfl, hbz⟩
  go_wp2
  exact ⟨rfl, hbz, rfl⟩
 case o11r =>
  intro w' hb v1 hv1 v2 hv2
  cases hv1
  cases hv2
  show wpList _ _ _ _ _ _
  simp only [Grow.dstOf, zzp, Act.put]
  go_wp2_with fail
  refine (times_is s sb sd E_sd.out (N_s.out.fits (by omega) (by omega)) (N_sb.out.fits (by omega) (by omega)) (N_sd.out.fits (by omega) (by omega)) w' (HT0.out.ext (ext_trans HW.out hb))).mono ?_
  rintro e wz ⟨rfl, hbz⟩
  go_wp2
  exact ⟨rfl, hbz, rfl⟩
 case o12r =>
  intro w' hb v1 hv1 v2 hv2
  cases hv1
  cases hv2
  show wpList _ _ _ _ _ _
  simp only [Grow.dstOf, zzp, Act.put]
  go_wp2_with fail
  refine (plus_is d1 sd re E_re.out (N_d1.out.fits (by omega) (by omega)) (N_sd.out.fits (by omega) (by omega)) (N_re.out.fits (by omega) (by omega)) w' (HT0.out.ext (ext_trans HW.out hb))).mono ?_
  rintro e wz ⟨rfl, hbz⟩
  go_wp2
  exact ⟨rfl, hbz, rfl⟩
 intro w4' hbz u0 hu0 u1 hu1 u2 hu2 u3 hu3 u4 hu4 u5 hu5 u6 hu6 u7 hu7 u8 hu8 u9 hu9 u10 hu10 u11 hu11 u12 hu12
 obtain rfl : u12 = _ := hu12
 clear hu0 hu1 hu2 hu3 hu4 hu5 hu6 hu7 hu8 hu9 hu10 hu11
 replace HR_s := Lib.hid (HR_s.out.ext hbz)
 replace HR_o := Lib.hid (HR_o.out.ext hbz)
 replace HR_x := Lib.hid (HR_x.out.ext hbz)
 replace HR_y := Lib.hid (HR_y.out.ext hbz)
 replace HR_z := Lib.hid (HR_z.out.ext hbz)
 replace HW := Lib.hid (ext_trans HW.out hbz)
 clear c_x_0 c_x_1 c_y_0 c_y_1 c_z_0 c_z_1 c_s_0 c_s_1
 clear hbz
 show wpList _ _ _ _ _ _
 simp only [Act.put, zzp]
 obtain ⟨c_o_0, c_o_1⟩ := zs2 HR_o.out
 have f_o_0 := HR_o.out.fre 0
 have f_o_1 := HR_o.out.fre 1
 go_wp2
 obtain ⟨w5', hX⟩ : ∃ Z9, Z9 = ((w4'.setCell ⟨(w.heap.size + 2), 0, none⟩ (.string (showN re))).setCell ⟨(w.heap.size + 2), 1, none⟩ (.string (showD re))) := ⟨_, rfl⟩
 rw [← hX]
 have n_o : Hid (RH w5' (w.heap.size + 2) #[.string (showN re), .string (showD re)] 24) := by rw [hX]; exact Lib.hid (((HR_o.out).set 0 (.string (showN re))).set 1 (.string (showD re)))
 have n_s : Hid (RH w5' (w.heap.size + 1) #[.string (showN s), .string (showD s)] 24) := by rw [hX]; exact Lib.hid (zzo (zzo (HR_s.out) (by omega)) (by omega))
 have n_x : Hid (RH w5' b_x #[.string (showN aq), .string (showD aq)] 24) := by rw [hX]; exact Lib.hid (zzo (zzo (HR_x.out) (by omega)) (by omega))
 have n_y : Hid (RH w5' (b_x + 1) #[.string (showN bq), .string (showD bq)] 24) := by rw [hX]; exact Lib.hid (zzo (zzo (HR_y.out) (by omega)) (by omega))
 have n_z : Hid (RH w5' (b_x + 2) #[.string (showN cq), .string (showD cq)] 24) := by rw [hX]; exact Lib.hid (zzo (zzo (HR_z.out) (by omega)) (by omega))
 have HK_ : ∀ p : Addr, p.block ≠ (w.heap.size + 2) → w5'.cell? p = w4'.cell? p := fun p hp => by rw [hX]; exact (cs_other hp).trans (cs_other hp)
 have nW : Hid (Below w.heap.size w w5') := by rw [hX]; exact Lib.hid (zzw (zzw (HW.out) (by omega)) (by omega))
 clear c_o_0 c_o_1 f_o_0 f_o_1
 clear hX HK_ HW HR_s HR_o HR_x HR_y HR_z 
 have HR_s := n_s; clear n_s
 have HR_o := n_o; clear n_o
 have HR_x := n_x; clear n_x
 have HR_y := n_y; clear n_y
 have HR_z := n_z; clear n_z
 have HW := nW; clear nW
 exact bodyPost_ret (v := .agg #[.string (showN re), .string (showD re)]) (results_cell_row rfl _ _ _ _ _ _ _ rfl HR_o.out Tryz.underlying24 rfl (by kernel_rfl : (Tryz.prog.info? 24).map (·.size) = some 2)) rfl ⟨(by rw [HRE.out]; first | done | rfl), HW.out⟩
set_option maxRecDepth 100000 in
set_option maxHeartbeats 16000000 in
theorem refSlope0_at (l : List MV) (a : Option Addr) (c : Nat) (w : World) (hs : Sl w (.slice a l.length c) l.length (l.flatMap mnL)) (hok : ∀ m ∈ l, m.r.ok) (ht : Tab w) (hz : raF 1 l = 0) : Calls Tryz.prog 24 #[.slice a l.length c] w (RtP w (slQ (armL l))) := by
 have HS := Lib.hid hs
 have HKO := Lib.hid hok
 have HZ := Lib.hid hz
 have HAO := Lib.hid (arms_ok (Int.le_refl 1) hz)
 clear hs hok hz
 obtain ⟨z, hz⟩ : ∃ z : Rat, ((0 : Int) : Rat) = z := ⟨_, rfl⟩
 have HZQ := Lib.hid hz
 have HZ0 : Hid (z = 0) := Lib.hid (by rw [← hz]; rfl)
 clear hz
 have HLA : Hid ((armL l).length = l.length) := Lib.hid (by unfold armL; rw [List.length_map])
 go_enter Tryz.func24, Tryz.ntmps24
 have HT0 := Lib.hid ht
 clear ht
 go_upto_region 1 with (fail)
 refine wp_rows1 fun w1' hbz hR0 => ?_
 have HR_o : Hid (RH w1' w.heap.size #[.string ⟨#[]⟩, .string ⟨#[]⟩] 24) := Lib.hid hR0
 have HW := Lib.hid hbz
 clear hbz hR0
 go_wp2_with fail
 refine (whole_z 0 z HZQ.out (by decide) (by decide) w1' (HT0.out.ext HW.out)).mono ?_
 rintro e w2' ⟨rfl, hbz⟩
 replace HR_o := Lib.hid (HR_o.out.ext hbz)
 replace HW := Lib.hid (ext_trans HW.out hbz)
 clear hbz
 go_wp2_with fail
 refine (whole_z 0 z HZQ.out (by decide) (by decide) w2' (HT0.out.ext HW.out)).mono ?_
 rintro e w3' ⟨rfl, hbz⟩
 replace HR_o := Lib.hid (HR_o.out.ext hbz)
 replace HW := Lib.hid (ext_trans HW.out hbz)
 clear hbz
 go_upto_region 2 with (fail)
 refine wp_rows2 fun w4' hbz hR0 hR1 => ?_
 have lt_o_u : w.heap.size < w3'.heap.size := HR_o.out.lt
 have le_u : w.heap.size ≤ w3'.heap.size := HW.out.size
 replace HR_o := Lib.hid (HR_o.out.ext hbz)
 replace HW := Lib.hid (ext_trans HW.out hbz)
 clear hbz
 have HR_u : Hid (RH w4' w3'.heap.size #[.string (showN z), .string (showD z)] 24) := Lib.hid hR0
 have HR_v : Hid (RH w4' (w3'.heap.size + 1) #[.string (showN z), .string (showD z)] 24) := Lib.hid hR1
 clear hR0 hR1
 generalize w3'.heap.size = b_u at *
 rw [HZ0.out] at HR_u HR_v
 go_wp2
 go_loopw [14] (fun i wr => ∃ k : Nat, k ≤ l.length ∧ i = .int .i64 (k : Int) ∧ (RH wr w.heap.size #[.string ⟨#[]⟩, .string ⟨#[]⟩] 24) ∧ (RH wr b_u #[.string (showN (aC ((armL l).take k))), .string (showD (aC ((armL l).take k)))] 24) ∧ (RH wr (b_u + 1) #[.string (showN (aB ((armL l).take k))), .string (showD (aB ((armL l).take k)))] 24) ∧ (Below w.heap.size w wr)) (fun i _ => l.length - (intOf i).toNat)
 case atStart => exact ⟨0, by omega, rfl, HR_o.out, HR_u.out, HR_v.out, HW.out⟩
 case round =>
  obtain ⟨k, hk, rfl, q_HR_o, q_HR_u, q_HR_v, q_HW⟩ := hrel
  clear HR_o HR_u HR_v HW
  have HR_o := Lib.hid q_HR_o
  have HR_u := Lib.hid q_HR_u
  have HR_v := Lib.hid q_HR_v
  have HW := Lib.hid q_HW
  clear q_HR_o q_HR_u q_HR_v q_HW
  generalize hX : wr = X at *
  clear hX
  have hl20 : l.length ≤ 20 := (ra_parts HZ.out).1.2
  obtain ⟨pa, hpa⟩ : ∃ z, aC ((armL l).take k) = z := ⟨_, rfl⟩
  obtain ⟨pb', hpb⟩ : ∃ z, aB ((armL l).take k) = z := ⟨_, rfl⟩
  have N_pa : Hid (Ln 322 100 pa) := Lib.hid (by rw [← hpa]; exact (aC_ok HAO.out k (by rw [HLA.out]; exact hk)).mono (by omega) (by omega))
  have N_pb' : Hid (Ln 322 100 pb') := Lib.hid (by rw [← hpb]; exact (aB_ok HAO.out k (by rw [HLA.out]; exact hk)).mono (by omega) (by omega))
  rw [hpa] at HR_u
  rw [hpb] at HR_v
  have E_pa := Lib.hid hpa
  have E_pb' := Lib.hid hpb
  clear hpa hpb
  by_cases hlt : k < l.length
  ·have hgk := List.getElem?_eq_getElem hlt
   have HOK := Lib.hid (HKO.out _ (List.getElem_mem hlt))
   have hal : k < (armL l).length := by rw [HLA.out]; exact hlt
   have e9 : (armL l)[k] = MV.arm l[k] := by simp only [armL, List.getElem_map]
   have HTB := aB_take hal
   have HTC := aC_take hal
   rw [e9] at HTB HTC
   clear e9
   have HQA := ra_arm HZ.out (List.getElem_mem hlt)
   have N_qa0 := (aC_ok HAO.out (k + 1) (by omega))
   have N_qb0 := (aB_ok HAO.out (k + 1) (by omega))
   generalize l[k] = mv at *
   obtain ⟨n, r⟩ := mv
   obtain ⟨pb, po, hp9, hcs⟩ := (HS.out.ext HW.out).elem (f := mnL) (fun _ => rfl) (by omega : 0 < 11) hgk
   subst hp9
   have e0 : X.cell? ⟨pb, po + k * 11, none⟩ = some (.int .i64 (n)) := hcs 0 _ rfl
   have e1 : X.cell? ⟨pb, po + k * 11 + 1, none⟩ = some (.string r.x.n) := hcs 1 _ rfl
   have e2 : X.cell? ⟨pb, po + k * 11 + 2, none⟩ = some (.string r.x.d) := hcs 2 _ rfl
   have e3 : X.cell? ⟨pb, po + k * 11 + 3, none⟩ = some (.string r.y.n) := hcs 3 _ rfl
   have e4 : X.cell? ⟨pb, po + k * 11 + 4, none⟩ = some (.string r.y.d) := hcs 4 _ rfl
   have e5 : X.cell? ⟨pb, po + k * 11 + 5, none⟩ = some (.string r.xx.n) := hcs 5 _ rfl
   have e6 : X.cell? ⟨pb, po + k * 11 + 6, none⟩ = some (.string r.xx.d) := hcs 6 _ rfl
   have e7 : X.cell? ⟨pb, po + k * 11 + 7, none⟩ = some (.string r.yy.n) := hcs 7 _ rfl
   have e8 : X.cell? ⟨pb, po + k * 11 + 8, none⟩ = some (.string r.yy.d) := hcs 8 _ rfl
   have e9 : X.cell? ⟨pb, po + k * 11 + 9, none⟩ = some (.string r.xy.n) := hcs 9 _ rfl
   have e10 : X.cell? ⟨pb, po + k * 11 + 10, none⟩ = some (.string r.xy.d) := hcs 10 _ rfl
   have hk0 : (0 : Int) ≤ (k : Int) := Int.natCast_nonneg _
   have hk1 : (k : Int) < (l.length : Int) := by omega
   have hk3 : (k : Int).toNat = k := by omega
   clear hcs hgk
   obtain ⟨⟨hn0, _, hn1⟩, _, hrq, hql, _⟩ := HQA
   simp only [MV.arm] at HTB HTC hn0 hn1 hrq hql
   obtain ⟨q, hq⟩ : ∃ z, r.q = z := ⟨_, rfl⟩
   rw [hq] at hql hrq HTB HTC
   subst hrq
   clear hq
   have HQL := Lib.hid hql
   clear hql
   rw [E_pb'.out] at HTB
   rw [E_pa.out] at HTC
   obtain ⟨aq, h9⟩ : ∃ z : Rat, spA n q = z := ⟨_, rfl⟩
   have E_aq := Lib.hid h9
   have N_aq : Hid (Ln 201 5 aq) := Lib.hid (by rw [← h9]; exact (HQL.out.spA hn0 hn1).mono (by omega) (by omega))
   clear h9
   obtain ⟨bq, h9⟩ : ∃ z : Rat, spB n q = z := ⟨_, rfl⟩
   have E_bq := Lib.hid h9
   have N_bq : Hid (Ln 201 5 bq) := Lib.hid (by rw [← h9]; exact (HQL.out.spB hn0 hn1).mono (by omega) (by omega))
   clear h9
   obtain ⟨cq, h9⟩ : ∃ z : Rat, spC n q = z := ⟨_, rfl⟩
   have E_cq := Lib.hid h9
   have N_cq : Hid (Ln 201 5 cq) := Lib.hid (by rw [← h9]; exact (HQL.out.spC hn0 hn1).mono (by omega) (by omega))
   clear h9
   rw [E_bq.out] at HTB
   rw [E_cq.out] at HTC
   obtain ⟨qa, hqa⟩ : ∃ z, aC ((armL l).take (k + 1)) = z := ⟨_, rfl⟩
   obtain ⟨qb, hqb⟩ : ∃ z, aB ((armL l).take (k + 1)) = z := ⟨_, rfl⟩
   rw [hqb] at HTB N_qb0
   rw [hqa] at HTC N_qa0
   have E_qa : Hid (pa + cq = qa) := Lib.hid HTC.symm
   have E_qb : Hid (pb' + bq = qb) := Lib.hid HTB.symm
   have N_qa : Hid (Ln 322 100 qa) := Lib.hid (Ln.mono N_qa0 (by omega) (by omega))
   have N_qb : Hid (Ln 322 100 qb) := Lib.hid (Ln.mono N_qb0 (by omega) (by omega))
   have HQ9 := Lib.hid (And.intro hqa hqb)
   clear HTB HTC hqa hqb N_qa0 N_qb0 hal
   go_upto_region 5 with (fail)
   refine wp_rows1 fun w5' hbz hR0 => ?_
   have lt_o_m : w.heap.size < X.heap.size := HR_o.out.lt
   have lt_u_m : b_u < X.heap.size := HR_u.out.lt
   have lt_v_m : (b_u + 1) < X.heap.size := HR_v.out.lt
   have le_m : w.heap.size ≤ X.heap.size := HW.out.size
   replace HR_o := Lib.hid (HR_o.out.ext hbz)
   replace HR_u := Lib.hid (HR_u.out.ext hbz)
   replace HR_v := Lib.hid (HR_v.out.ext hbz)
   replace HW := Lib.hid (ext_trans HW.out hbz)
   clear e0 e1 e2 e3 e4 e5 e6 e7 e8 e9 e10
   clear hbz
   have HR_m : Hid (RH w5' X.heap.size (mrA (n) q.r) 35) := Lib.hid hR0
   clear hR0
   generalize X.heap.size = b_m at *
   go_wp2_with (first | (refine wpList_load_row rfl _ _ rfl b_m rfl _ (mrA (n) q.r) _ _ HR_m.out Tryz.underlying35 rfl (mr_info _ _) ?_))
   refine (around_at n hn0 hn1 q HQL.out w5' (HT0.out.ext HW.out)).mono ?_
   rintro e w6' ⟨rfl, hbz⟩
   rw [E_aq.out, E_bq.out, E_cq.out]
   replace HR_o := Lib.hid (HR_o.out.ext hbz)
   replace HR_u := Lib.hid (HR_u.out.ext hbz)
   replace HR_v := Lib.hid (HR_v.out.ext hbz)
   replace HR_m := Lib.hid (HR_m.out.ext hbz)
   replace HW := Lib.hid (ext_trans HW.out hbz)
   clear hbz
   clear HR_m
   go_upto_region 6 with (fail)
   refine wp_rows3 fun w7' hbz hR0 hR1 hR2 => ?_
   have lt_o_x : w.heap.size < w6'.heap.size := HR_o.out.lt
   have lt_u_x : b_u < w6'.heap.size := HR_u.out.lt
   have lt_v_x : (b_u + 1) < w6'.heap.size := HR_v.out.lt
   have le_x : w.heap.size ≤ w6'.heap.size := HW.out.size
   replace HR_o := Lib.hid (HR_o.out.ext hbz)
   replace HR_u := Lib.hid (HR_u.out.ext hbz)
   replace HR_v := Lib.hid (HR_v.out.ext hbz)
   replace HW := Lib.hid (ext_trans HW.out hbz)
   clear hbz
   have HR_x : Hid (RH w7' w6'.heap.size #[.string (showN aq), .string (showD aq)] 24) := Lib.hid hR0
   have HR_y : Hid (RH w7' (w6'.heap.size + 1) #[.string (showN bq), .string (showD bq)] 24) := Lib.hid hR1
   have HR_z : Hid (RH w7' (w6'.heap.size + 2) #[.string (showN cq), .string (showD cq)] 24) := Lib.hid hR2
   clear hR0 hR1 hR2
   generalize w6'.heap.size = b_x at *
   obtain ⟨c_u_0, c_u_1⟩ := zs2 HR_u.out
   obtain ⟨c_v_0, c_v_1⟩ := zs2 HR_v.out
   obtain ⟨c_y_0, c_y_1⟩ := zs2 HR_y.out
   obtain ⟨c_z_0, c_z_1⟩ := zs2 HR_z.out
   refine Grow.wp_region_grow 6 [TP.eq (rtV pa), TP.eq (rtV cq), TP.eq (rtV qa), TP.eq (rtV pb'), TP.eq (rtV bq), TP.eq (rtV qb)] [[], [], [0, 1], [], [], [3, 4]] (by kernel_rfl) (by kernel_rfl) ⟨?o0s, ?o1s, ?o2s, ?o3s, ?o4s, ?o5s, trivial⟩ ?_
   case o0s | o1s | o3s | o4s =>
    intro w' hb
    have c_u_0' := zzc hb c_u_0
    have c_u_1' := zzc hb c_u_1
    have c_z_0' := zzc hb c_z_0
    have c_z_1' := zzc hb c_z_1
    have c_v_0' := zzc hb c_v_0
    have c_v_1' := zzc hb c_v_1
    have c_y_0' := zzc hb c_y_0
    have c_y_1' := zzc hb c_y_1
    show wpList _ _ _ _ _ _
    go_wp2
    exact ⟨rfl, Below.refl _ _, rfl⟩
   case o2s =>
    intro w' hb v1 hv1 v2 hv2
    cases hv1
    cases hv2
    show wpList _ _ _ _ _ _
    simp only [Grow.dstOf, zzp, Act.put]
    go_wp2_with fail
    refine (plus_is pa cq qa E_qa.out (N_pa.out.fits (by omega) (by omega)) (N_cq.out.fits (by omega) (by omega)) (N_qa.out.fits (by omega) (by omega)) w' (HT0.out.ext (ext_trans HW.out hb))).mono ?_
    rintro e wz ⟨rfl, hbz⟩
    go_wp2
    exact ⟨rfl, hbz, rfl⟩
   case o5s =>
    intro w' hb v1 hv1 v2 hv2
    cases hv1
    cases hv2
    show wpList _ _ _ _ _ _
    simp only [Grow.dstOf, zzp, Act.put]
    go_wp2_with fail
    refine (plus_is pb' bq qb E_qb.out (N_pb'.out.fits (by omega) (by omega)) (N_bq.out.fits (by omega) (by omega)) (N_qb.out.fits (by omega) (by omega)) w' (HT0.out.ext (ext_trans HW.out hb))).mono ?_
    rintro e wz ⟨rfl, hbz⟩
    go_wp2
    exact ⟨rfl, hbz, rfl⟩
   intro w8' hbz u0 hu0 u1 hu1 u2 hu2 u3 hu3 u4 hu4 u5 hu5
   obtain rfl : u2 = _ := hu2
   obtain rfl : u5 = _ := hu5
   clear hu0 hu1 hu3 hu4
   replace HR_o := Lib.hid (HR_o.out.ext hbz)
   replace HR_u := Lib.hid (HR_u.out.ext hbz)
   replace HR_v := Lib.hid (HR_v.out.ext hbz)
   replace HR_x := Lib.hid (HR_x.out.ext hbz)
   replace HR_y := Lib.hid (HR_y.out.ext hbz)
   replace HR_z := Lib.hid (HR_z.out.ext hbz)
   replace HW := Lib.hid (ext_trans HW.out hbz)
   clear c_u_0 c_u_1 c_v_0 c_v_1 c_y_0 c_y_1 c_z_0 c_z_1
   clear hbz
   clear HR_x
   clear HR_y
   clear HR_z
   show wpList _ _ _ _ _ _
   simp only [Act.put, zzp]
   obtain ⟨c_u_0, c_u_1⟩ := zs2 HR_u.out
   have f_u_0 := HR_u.out.fre 0
   have f_u_1 := HR_u.out.fre 1
   obtain ⟨c_v_0, c_v_1⟩ := zs2 HR_v.out
   have f_v_0 := HR_v.out.fre 0
   have f_v_1 := HR_v.out.fre 1
   go_upto_region 7 with (fail)
   obtain ⟨w9', hX⟩ : ∃ Z9, Z9 = ((w8'.setCell ⟨b_u, 0, none⟩ (.string (showN qa))).setCell ⟨b_u, 1, none⟩ (.string (showD qa))) := ⟨_, rfl⟩
   rw [← hX]
   have n_u : Hid (RH w9' b_u #[.string (showN qa), .string (showD qa)] 24) := by rw [hX]; exact Lib.hid (((HR_u.out).set 0 (.string (showN qa))).set 1 (.string (showD qa)))
   have n_o : Hid (RH w9' w.heap.size #[.string ⟨#[]⟩, .string ⟨#[]⟩] 24) := by rw [hX]; exact Lib.hid (zzo (zzo (HR_o.out) (by omega)) (by omega))
   have n_v : Hid (RH w9' (b_u + 1) #[.string (showN pb'), .string (showD pb')] 24) := by rw [hX]; exact Lib.hid (zzo (zzo (HR_v.out) (by omega)) (by omega))
   have HK_ : ∀ p : Addr, p.block ≠ b_u → w9'.cell? p = w8'.cell? p := fun p hp => by rw [hX]; exact (cs_other hp).trans (cs_other hp)
   have nW : Hid (Below w.heap.size w w9') := by rw [hX]; exact Lib.hid (zzw (zzw (HW.out) (by omega)) (by omega))
   clear c_u_0 c_u_1 f_u_0 f_u_1 c_v_0 c_v_1 f_v_0 f_v_1
   clear hX HK_ HW HR_o HR_u HR_v 
   have HR_o := n_o; clear n_o
   have HR_u := n_u; clear n_u
   have HR_v := n_v; clear n_v
   have HW := nW; clear nW
   obtain ⟨w10', hX⟩ : ∃ Z9, Z9 = ((w9'.setCell ⟨(b_u + 1), 0, none⟩ (.string (showN qb))).setCell ⟨(b_u + 1), 1, none⟩ (.string (showD qb))) := ⟨_, rfl⟩
   rw [← hX]
   have n_v : Hid (RH w10' (b_u + 1) #[.string (showN qb), .string (showD qb)] 24) := by rw [hX]; exact Lib.hid (((HR_v.out).set 0 (.string (showN qb))).set 1 (.string (showD qb)))
   have n_o : Hid (RH w10' w.heap.size #[.string ⟨#[]⟩, .string ⟨#[]⟩] 24) := by rw [hX]; exact Lib.hid (zzo (zzo (HR_o.out) (by omega)) (by omega))
   have n_u : Hid (RH w10' b_u #[.string (showN qa), .string (showD qa)] 24) := by rw [hX]; exact Lib.hid (zzo (zzo (HR_u.out) (by omega)) (by omega))
   have HK_ : ∀ p : Addr, p.block ≠ (b_u + 1) → w10'.cell? p = w9'.cell? p := fun p hp => by rw [hX]; exact (cs_other hp).trans (cs_other hp)
   have nW : Hid (Below w.heap.size w w10') := by rw [hX]; exact Lib.hid (zzw (zzw (HW.out) (by omega)) (by omega))
   clear hX HK_ HW HR_o HR_u HR_v 
   have HR_o := n_o; clear n_o
   have HR_u := n_u; clear n_u
   have HR_v := n_v; clear n_v
   have HW := nW; clear nW
   rw [← HQ9.out.1] at HR_u
   rw [← HQ9.out.2] at HR_v
   go_wp2
   go_roundw
   case rel => exact ⟨k + 1, by omega, by go_num, HR_o.out, HR_u.out, HR_v.out, HW.out⟩
   case measure => simp [intOf]; omega
  ·have hkl : k = (armL l).length := by rw [HLA.out]; omega
   have E_C : Hid (aC (armL l) = pa) := Lib.hid (by rw [← E_pa.out, hkl, List.take_length])
   have E_B : Hid (aB (armL l) = pb') := Lib.hid (by rw [← E_pb'.out, hkl, List.take_length])
   clear hkl
   obtain ⟨b, hb0⟩ : ∃ b, decide (pb' = 0) = b := ⟨_, rfl⟩
   have HB0 := Lib.hid hb0
   clear hb0
   obtain ⟨c_v_0, c_v_1⟩ := zs2 HR_v.out
   go_wp2_with fail
   refine (isZero_at pb' b HB0.out X).mono ?_
   rintro e w5' ⟨rfl, hbz⟩
   replace HR_o := Lib.hid (HR_o.out.ext hbz)
   replace HR_u := Lib.hid (HR_u.out.ext hbz)
   replace HR_v := Lib.hid (HR_v.out.ext hbz)
   replace HW := Lib.hid (ext_trans HW.out hbz)
   clear c_v_0 c_v_1
   clear hbz
   cases b
   ·have HNZ : Hid (pb' ≠ 0) := Lib.hid (of_decide_eq_false HB0.out)
    obtain ⟨sl, h9⟩ : ∃ z : Rat, pa / pb' = z := ⟨_, rfl⟩
    have E_sl := Lib.hid h9
    have N_sl : Hid (Ln 422 422 sl) := Lib.hid (by rw [← h9]; exact (Ln.div N_pa.out N_pb'.out HNZ.out).mono (by omega) (by omega))
    clear h9
    have HSQ : Hid (slQ (armL l) = sl) := Lib.hid (by unfold slQ; rw [E_B.out, E_C.out, if_neg HNZ.out]; exact E_sl.out)
    obtain ⟨c_u_0, c_u_1⟩ := zs2 HR_u.out
    obtain ⟨c_v_0, c_v_1⟩ := zs2 HR_v.out
    go_wp2_with fail
    refine (over_is pa pb' sl E_sl.out (N_pa.out.fits (by omega) (by omega)) (N_pb'.out.fits (by omega) (by omega)) HNZ.out (N_sl.out.fits (by omega) (by omega)) w5' (HT0.out.ext HW.out)).mono ?_
    rintro e w6' ⟨rfl, hbz⟩
    replace HR_o := Lib.hid (HR_o.out.ext hbz)
    replace HR_u := Lib.hid (HR_u.out.ext hbz)
    replace HR_v := Lib.hid (HR_v.out.ext hbz)
    replace HW := Lib.hid (ext_trans HW.out hbz)
    clear c_u_0 c_u_1 c_v_0 c_v_1
    clear hbz
    clear HR_u
    clear HR_v
    obtain ⟨c_o_0, c_o_1⟩ := zs2 HR_o.out
    have f_o_0 := HR_o.out.fre 0
    have f_o_1 := HR_o.out.fre 1
    go_wp2
    obtain ⟨w7', hX⟩ : ∃ Z9, Z9 = ((w6'.setCell ⟨w.heap.size, 0, none⟩ (.string (showN sl))).setCell ⟨w.heap.size, 1, none⟩ (.string (showD sl))) := ⟨_, rfl⟩
    rw [← hX]
    have n_o : Hid (RH w7' w.heap.size #[.string (showN sl), .string (showD sl)] 24) := by rw [hX]; exact Lib.hid (((HR_o.out).set 0 (.string (showN sl))).set 1 (.string (showD sl)))
    have HK_ : ∀ p : Addr, p.block ≠ w.heap.size → w7'.cell? p = w6'.cell? p := fun p hp => by rw [hX]; exact (cs_other hp).trans (cs_other hp)
    have nW : Hid (Below w.heap.size w w7') := by rw [hX]; exact Lib.hid (zzw (zzw (HW.out) (by omega)) (by omega))
    clear c_o_0 c_o_1 f_o_0 f_o_1
    clear hX HK_ HW HR_o 
    have HR_o := n_o; clear n_o
    have HW := nW; clear nW
    exact bodyPost_ret (v := .agg #[.string (showN sl), .string (showD sl)]) (results_cell_row rfl _ _ _ _ _ _ _ rfl HR_o.out Tryz.underlying24 rfl (by kernel_rfl : (Tryz.prog.info? 24).map (·.size) = some 2)) rfl ⟨(by rw [HSQ.out]; first | done | rfl), HW.out⟩
   ·have HSQ : Hid (slQ (armL l) = pb') := Lib.hid (by have h := of_decide_eq_true HB0.out; unfold slQ; rw [E_B.out, if_pos h]; exact h.symm)
    clear HR_u
    obtain ⟨c_v_0, c_v_1⟩ := zs2 HR_v.out
    obtain ⟨c_o_0, c_o_1⟩ := zs2 HR_o.out
    have f_o_0 := HR_o.out.fre 0
    have f_o_1 := HR_o.out.fre 1
    go_wp2
    obtain ⟨w6', hX⟩ : ∃ Z9, Z9 = ((w5'.setCell ⟨w.heap.size, 0, none⟩ (.string (showN pb'))).setCell ⟨w.heap.size, 1, none⟩ (.string (showD pb'))) := ⟨_, rfl⟩
    rw [← hX]
    have n_o : Hid (RH w6' w.heap.size #[.string (showN pb'), .string (showD pb')] 24) := by rw [hX]; exact Lib.hid (((HR_o.out).set 0 (.string (showN pb'))).set 1 (.string (showD pb')))
    have n_v : Hid (RH w6' (b_u + 1) #[.string (showN pb'), .string (showD pb')] 24) := by rw [hX]; exact Lib.hid (zzo (zzo (HR_v.out) (by omega)) (by omega))
    have HK_ : ∀ p : Addr, p.block ≠ w.heap.size → w6'.cell? p = w5'.cell? p := fun p hp => by rw [hX]; exact (cs_other hp).trans (cs_other hp)
    have nW : Hid (Below w.heap.size w w6') := by rw [hX]; exact Lib.hid (zzw (zzw (HW.out) (by omega)) (by omega))
    clear c_v_0 c_v_1 c_o_0 c_o_1 f_o_0 f_o_1
    clear hX HK_ HW HR_o HR_v 
    have HR_o := n_o; clear n_o
    have HR_v := n_v; clear n_v
    have HW := nW; clear nW
    exact bodyPost_ret (v := .agg #[.string (showN pb'), .string (showD pb')]) (results_cell_row rfl _ _ _ _ _ _ _ rfl HR_o.out Tryz.underlying24 rfl (by kernel_rfl : (Tryz.prog.info? 24).map (·.size) = some 2)) rfl ⟨(by rw [HSQ.out]; first | done | rfl), HW.out⟩
set_option maxRecDepth 100000 in
set_option maxHeartbeats 16000000 in
theorem refSlope_at (l : List MV) (a : Option Addr) (c : Nat) (w : World) (hs : Sl w (.slice a l.length c) l.length (l.flatMap mnL)) (hok : ∀ m ∈ l, m.r.ok) (ht : Tab w) : Calls Tryz.prog 6 #[.slice a l.length c] w (RqPost w (raF 1 l) (slQ (armL l))) := by
 have HS := Lib.hid hs
 have HKO := Lib.hid hok
 clear hs hok
 go_enter Tryz.func6, Tryz.ntmps6
 have HT0 := Lib.hid ht
 clear ht
 go_upto_region 1 with (fail)
 refine wp_rows1 fun w1' hbz hR0 => ?_
 have HR_o : Hid (RH w1' w.heap.size #[.string ⟨#[]⟩, .string ⟨#[]⟩] 24) := Lib.hid hR0
 have HW := Lib.hid hbz
 clear hbz hR0
 go_wp2_with fail
 refine (arms_at 1 l a c w1' (HS.out.ext HW.out) HKO.out (HT0.out.ext HW.out)).mono ?_
 rintro e w2' ⟨rfl, hbz⟩
 replace HR_o := Lib.hid (HR_o.out.ext hbz)
 replace HW := Lib.hid (ext_trans HW.out hbz)
 clear hbz
 by_cases hz : raF 1 l = 0
 ·have hne2 : (raF 1 l != 0) = false := by simp [hz]
  have HZ := Lib.hid hz
  clear hz
  go_wp2_with fail
  refine (refSlope0_at l a c w2' (HS.out.ext HW.out) HKO.out (HT0.out.ext HW.out) HZ.out).mono ?_
  rintro e w3' ⟨rfl, hbz⟩
  replace HR_o := Lib.hid (HR_o.out.ext hbz)
  replace HW := Lib.hid (ext_trans HW.out hbz)
  clear hbz
  obtain ⟨c_o_0, c_o_1⟩ := zs2 HR_o.out
  have f_o_0 := HR_o.out.fre 0
  have f_o_1 := HR_o.out.fre 1
  go_wp2
  obtain ⟨w4', hX⟩ : ∃ Z9, Z9 = ((w3'.setCell ⟨w.heap.size, 0, none⟩ (.string (showN (slQ (armL l))))).setCell ⟨w.heap.size, 1, none⟩ (.string (showD (slQ (armL l))))) := ⟨_, rfl⟩
  rw [← hX]
  have n_o : Hid (RH w4' w.heap.size #[.string (showN (slQ (armL l))), .string (showD (slQ (armL l)))] 24) := by rw [hX]; exact Lib.hid (((HR_o.out).set 0 (.string (showN (slQ (armL l))))).set 1 (.string (showD (slQ (armL l)))))
  have HK_ : ∀ p : Addr, p.block ≠ w.heap.size → w4'.cell? p = w3'.cell? p := fun p hp => by rw [hX]; exact (cs_other hp).trans (cs_other hp)
  have nW : Hid (Below w.heap.size w w4') := by rw [hX]; exact Lib.hid (zzw (zzw (HW.out) (by omega)) (by omega))
  clear c_o_0 c_o_1 f_o_0 f_o_1
  clear hX HK_ HW HR_o 
  have HR_o := n_o; clear n_o
  have HW := nW; clear nW
  refine bodyPost_ret (v := .tuple #[.agg #[.string (showN (slQ (armL l))), .string (showD (slQ (armL l)))], .int .i64 0]) ?_ rfl ⟨by simp only [HZ.out, rtN_0, rtD_0], HW.out⟩
  have hld := run_loadVar_row (P := Tryz.prog) _ _ _ 24 _ _ _ HR_o.out Tryz.underlying24 rfl (by kernel_rfl : (Tryz.prog.info? 24).map (·.size) = some 2)
  rw [results_cell_tmp rfl]
  simp [asAddr, Result.andThen, hld]
 ·have hne2 : (raF 1 l != 0) = true := by simp [hz]
  have HNE := Lib.hid hz
  clear hz
  obtain ⟨c_o_0, c_o_1⟩ := zs2 HR_o.out
  have f_o_0 := HR_o.out.fre 0
  have f_o_1 := HR_o.out.fre 1
  go_wp2
  obtain ⟨w3', hX⟩ : ∃ Z9, Z9 = ((w2'.setCell ⟨w.heap.size, 0, none⟩ (.string ⟨#[]⟩)).setCell ⟨w.heap.size, 1, none⟩ (.string ⟨#[]⟩)) := ⟨_, rfl⟩
  rw [← hX]
  have n_o : Hid (RH w3' w.heap.size #[.string ⟨#[]⟩, .string ⟨#[]⟩] 24) := by rw [hX]; exact Lib.hid (((HR_o.out).set 0 (.string ⟨#[]⟩)).set 1 (.string ⟨#[]⟩))
  have HK_ : ∀ p : Addr, p.block ≠ w.heap.size → w3'.cell? p = w2'.cell? p := fun p hp => by rw [hX]; exact (cs_other hp).trans (cs_other hp)
  have nW : Hid (Below w.heap.size w w3') := by rw [hX]; exact Lib.hid (zzw (zzw (HW.out) (by omega)) (by omega))
  clear c_o_0 c_o_1 f_o_0 f_o_1
  clear hX HK_ HW HR_o 
  have HR_o := n_o; clear n_o
  have HW := nW; clear nW
  refine bodyPost_ret (v := .tuple #[.agg #[.string ⟨#[]⟩, .string ⟨#[]⟩], .int .i64 (raF 1 l)]) ?_ rfl ⟨by simp only [rtN_no HNE.out, rtD_no HNE.out], HW.out⟩
  have hld := run_loadVar_row (P := Tryz.prog) _ _ _ 24 _ _ _ HR_o.out Tryz.underlying24 rfl (by kernel_rfl : (Tryz.prog.info? 24).map (·.size) = some 2)
  rw [results_cell_tmp rfl]
  simp [asAddr, Result.andThen, hld]
end Nt
end Go.Proofs.YtlbnjgnbpiidaaaGreatDoor
