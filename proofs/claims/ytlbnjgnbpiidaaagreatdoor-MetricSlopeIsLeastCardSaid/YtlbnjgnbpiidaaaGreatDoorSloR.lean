/- What is left by a slope, in the law's own words. Printed by gen_lawslo.py. -/
import Derived.Test.YtlbnjgnbpiidaaaGreatDoorB800
import Derived.Test.YtlbnjgnbpiidaaaGreatDoorB801
import Derived.Test.YtlbnjgnbpiidaaaGreatDoorProg
import Derived.Test.YtlbnjgnbpiidaaaGreatDoorB802
import Derived.Test.YtlbnjgnbpiidaaaGreatDoorB803
import Derived.Test.YtlbnjgnbpiidaaaGreatDoorB804
import Derived.Test.YtlbnjgnbpiidaaaGreatDoorB805
import Derived.Test.YtlbnjgnbpiidaaaGreatDoorB806
import Derived.Test.YtlbnjgnbpiidaaaGreatDoorB807
import Derived.Test.YtlbnjgnbpiidaaaGreatDoorB808
import Derived.Test.YtlbnjgnbpiidaaaGreatDoorB809
import Derived.Test.YtlbnjgnbpiidaaaGreatDoorB810
import Derived.Test.YtlbnjgnbpiidaaaGreatDoorB811
import Derived.Test.YtlbnjgnbpiidaaaGreatDoorB812
import Derived.Test.YtlbnjgnbpiidaaaGreatDoorB813
import Derived.Test.YtlbnjgnbpiidaaaGreatDoorB837
import Derived.Test.YtlbnjgnbpiidaaaGreatDoorB848
import Derived.Test.YtlbnjgnbpiidaaaGreatDoorB836
import Derived.Test.YtlbnjgnbpiidaaaGreatDoorB814
import Derived.Test.YtlbnjgnbpiidaaaGreatDoorB815
import Derived.Test.YtlbnjgnbpiidaaaGreatDoorB816
import Derived.Test.YtlbnjgnbpiidaaaGreatDoorB817
import Derived.Test.YtlbnjgnbpiidaaaGreatDoorB818
import Derived.Test.YtlbnjgnbpiidaaaGreatDoorB819
import Derived.Test.YtlbnjgnbpiidaaaGreatDoorB820
import Derived.Test.YtlbnjgnbpiidaaaGreatDoorShelf
import Derived.Test.YtlbnjgnbpiidaaaGreatDoorB821
import Derived.Test.YtlbnjgnbpiidaaaGreatDoorB822
import Derived.Test.YtlbnjgnbpiidaaaGreatDoorB823
import Derived.Test.YtlbnjgnbpiidaaaGreatDoorB824
import Derived.Test.YtlbnjgnbpiidaaaGreatDoorB825
import Derived.Test.YtlbnjgnbpiidaaaGreatDoorB826
import Derived.Test.YtlbnjgnbpiidaaaGreatDoorB827
import Derived.Test.YtlbnjgnbpiidaaaGreatDoorB828
import Derived.Test.YtlbnjgnbpiidaaaGreatDoorB829
import Derived.Test.YtlbnjgnbpiidaaaGreatDoorB830
import Derived.Test.YtlbnjgnbpiidaaaGreatDoorB831
import Derived.Test.YtlbnjgnbpiidaaaGreatDoorB832
import Derived.Test.YtlbnjgnbpiidaaaGreatDoorB833
import Derived.Test.YtlbnjgnbpiidaaaGreatDoorB835
import Derived.Test.YtlbnjgnbpiidaaaGreatDoorGrowF
import Derived.Test.YtlbnjgnbpiidaaaGreatDoorAdjC
import Derived.Test.YtlbnjgnbpiidaaaGreatDoorB834
import Derived.Test.YtlbnjgnbpiidaaaGreatDoorB838
import Derived.Test.YtlbnjgnbpiidaaaGreatDoorB843
import Derived.Test.YtlbnjgnbpiidaaaGreatDoorB845
import Derived.Test.YtlbnjgnbpiidaaaGreatDoorRAdjC
import Derived.Test.YtlbnjgnbpiidaaaGreatDoorB839
import Derived.Laws.StructEq
namespace Go.Proofs.YtlbnjgnbpiidaaaGreatDoor
open Go.RowKit
namespace Nt
open _root_.Go.Proofs.YtlbnjgnbpiidaaaGreatDoor.Nm (tl_lit rF rQ showN showD Fits show_size cutS cutS_size cutB cut_show cmpQ RT rtOk trimPrefix_at Ln QL QF QS Q5 R5 shR mrA mr_info NoW noW_all BF cs_other wp_rows1 wp_rows2 wp_rows3 wp_rows4 smF smL smL_step sm_five momF posB posB1 zerB dfA dfB dfC df_ln ln_n n_ne fits_int i64_ten BPost FPost spA spB spC sp_ln atF at_parts mom_parts vrQ rtC fq fr fr_get R5.ok_at rat_neg MV MV.arm mnL armL armsF armsF_step fewL raF ra_parts ra_arm Arm aB aC aB_take aC_take aB_ok aC_ok ApOk ArmsOk arms_ok slQ sl_ln rsQ aS aS_ok aS_y aY aN aN_ok aN_take EV evL ajV ajE mdQ ajL ajsL et_info EO EO.ext EO.push AjPost AjPost.bad adM fewL_no n_ne aA aA_app rsL rs_sum rsL_app chL ch_sum chL_app slope_least adj_sum ra_two spreadM_at slopeM_at adjM_at mdQ posB Arm.Ok TP.row rtN rtD nF rtN_0 rtD_0 rtN_no rtD_no nF_no meQ veQ RqPost S3Post mom_ql at_ql)

theorem aA_take {l : List Arm} {k : Nat} (h : k < l.length) : aA (l.take (k + 1)) = aA (l.take k) + spA l[k].n l[k].q := by rw [List.take_succ_eq_append_getElem h, aA_app]
theorem aA_ok {l : List Arm} (hl : ArmsOk l) : ∀ k, k ≤ l.length → ApOk k (aA (l.take k))
 | 0, _ => Ln.nat (n := 0) (a := 202) (Nat.zero_le _)
 | k + 1, h => by
  have ho := hl.ok _ (List.getElem_mem (show k < l.length by omega))
  have h1 := aA_ok hl k (by omega)
  have h2 := ho.2.spA ho.1.1 ho.1.2
  rw [aA_take (by omega)]; exact (Ln.add h1 h2).mono (by omega) (by omega)
theorem rsL_take {l : List Arm} {k : Nat} (s : Rat) (h : k < l.length) : rsL s (l.take (k + 1)) = rsL s (l.take k) + rsQ s l[k] := by rw [List.take_succ_eq_append_getElem h, rsL_app]
theorem rsL_ln {l : List Arm} (hl : ArmsOk l) {s : Rat} (hs : Ln 430 430 s) {k : Nat} (hk : k ≤ l.length) : Ln 2500 1700 (rsL s (l.take k)) := by
 have h1 := hl.len
 have hA : Ln 322 100 (aA (l.take k)) := (aA_ok hl k hk).mono (by omega) (by omega)
 have hB : Ln 322 100 (aB (l.take k)) := (aB_ok hl k hk).mono (by omega) (by omega)
 have hC : Ln 322 100 (aC (l.take k)) := (aC_ok hl k hk).mono (by omega) (by omega)
 have h2 : Ln 1 0 (2 : Rat) := Ln.int (z := 2) (a := 1) (by decide)
 have e1 : Ln 753 530 ((2 : Rat) * (s * aC (l.take k))) := (Ln.mul h2 (Ln.mul hs hC)).mono (by omega) (by omega)
 have e2 : Ln 860 630 (aA (l.take k) - 2 * (s * aC (l.take k))) := (Ln.sub hA e1).mono (by omega) (by omega)
 have e3 : Ln 1182 960 (s * (s * aB (l.take k))) := (Ln.mul hs (Ln.mul hs hB)).mono (by omega) (by omega)
 rw [rs_sum]
 exact (Ln.add e2 e3).mono (by omega) (by omega)
theorem chL_take {l : List Arm} {k : Nat} (s m : Rat) (h : k < l.length) : chL s m (l.take (k + 1)) = chL s m (l.take k) + (l[k].q.x - (l[k].n : Rat) * adM s m l[k]) := by rw [List.take_succ_eq_append_getElem h, chL_app]
theorem chL_ln {l : List Arm} (hl : ArmsOk l) {s m : Rat} (hs : Ln 422 422 s) (hm : Ln 121 6 m) {k : Nat} (hk : k ≤ l.length) : Ln 700 500 (chL s m (l.take k)) := by
 have h1 := hl.len
 have hY := aY_ok hl hk
 have hN := aN_ok hl k hk
 have h6 : (10 : Nat) ^ 6 = 1000000 := by decide
 have hNL : Ln 6 0 ((aN (l.take k) : Int) : Rat) := Ln.int (by rw [h6]; omega)
 rw [ch_sum s m (fun a ha => (hl.ok a (List.mem_of_mem_take ha)).1.1)]
 exact (Ln.mul hs (Ln.sub hY (Ln.mul hNL hm))).mono (by omega) (by omega)
theorem ra_ok {l : List MV} (h : raF 1 l = 0) : ∀ a ∈ armL l, a.Ok := fun a ha => by
 obtain ⟨m, hm, rfl⟩ := List.mem_map.1 ha
 obtain ⟨⟨h1, _, _⟩, _, _, _, hp⟩ := ra_arm h hm
 exact ⟨h1, hp⟩
theorem ra_at {n : Int} {r : R5} {P : Prop} (h : (1 ≤ n ∧ 0 ≤ n ∧ n ≤ 20000) ∧ momF n r = 0 ∧ P) : atF 1 n r = 0 := by
 unfold atF; rw [if_neg (fun h' => h' h.2.1), if_neg (by omega)]
theorem md_ln {l : List Arm} (hl : ArmsOk l) (h0 : 0 < l.length) : Ln 121 6 (mdQ l) := by
 have hY := aY_ok hl (Nat.le_refl _)
 have hN := aN_ok hl l.length (Nat.le_refl _)
 rw [List.take_length] at hY hN
 have h1 := hl.len
 have h6 : (10 : Nat) ^ 6 = 1000000 := by decide
 unfold mdQ
 exact (Ln.div hY (Ln.int (z := aN l) (a := 6) (by rw [h6]; omega)) (n_ne (by omega))).mono (by omega) (by omega)
def RestPost (w : World) (q : Rat) (e : Ending) (w' : World) : Prop := e = .returned (.tuple #[rtV q, .bool true]) ∧ Below w.heap.size w w'
set_option maxRecDepth 100000 in
set_option maxHeartbeats 16000000 in
theorem rest_at (l : List MV) (a : Option Addr) (c : Nat) (w : World) (hs : Sl w (.slice a l.length c) l.length (l.flatMap mnL)) (hok : ∀ m ∈ l, m.r.ok) (ht : Tab w) (hz : raF 1 l = 0) (s : Rat) (hsl : Ln 430 430 s) : Calls Tryz.prog 15 #[.slice a l.length c, rtV s] w (RestPost w (rsL s (armL l))) := by
 have HS := Lib.hid hs
 have HKO := Lib.hid hok
 have HZ := Lib.hid hz
 have HAO := Lib.hid (arms_ok (Int.le_refl 1) hz)
 have N_s := Lib.hid hsl
 clear hs hok hz hsl
 obtain ⟨z, hz⟩ : ∃ z : Rat, ((0 : Int) : Rat) = z := ⟨_, rfl⟩
 have HZQ := Lib.hid hz
 have HZ0 : Hid (z = 0) := Lib.hid (by rw [← hz]; rfl)
 clear hz
 have HLA : Hid ((armL l).length = l.length) := Lib.hid (by unfold armL; rw [List.length_map])
 go_enter Tryz.func15, Tryz.ntmps15
 have HT0 := Lib.hid ht
 clear ht
 go_upto_region 1 with (fail)
 refine wp_rows2 fun w1' hbz hR0 hR1 => ?_
 have HR_s : Hid (RH w1' w.heap.size #[.string (showN s), .string (showD s)] 24) := Lib.hid hR0
 have HR_o : Hid (RH w1' (w.heap.size + 1) #[.string ⟨#[]⟩, .string ⟨#[]⟩] 24) := Lib.hid hR1
 have HW := Lib.hid hbz
 clear hbz hR0 hR1
 go_wp2_with fail
 refine (whole_z 0 z HZQ.out (by decide) (by decide) w1' (HT0.out.ext HW.out)).mono ?_
 rintro e w2' ⟨rfl, hbz⟩
 replace HR_s := Lib.hid (HR_s.out.ext hbz)
 replace HR_o := Lib.hid (HR_o.out.ext hbz)
 replace HW := Lib.hid (ext_trans HW.out hbz)
 clear hbz
 go_upto_region 2 with (fail)
 refine wp_rows1 fun w3' hbz hR0 => ?_
 have lt_s_u : w.heap.size < w2'.heap.size := HR_s.out.lt
 have lt_o_u : (w.heap.size + 1) < w2'.heap.size := HR_o.out.lt
 have le_u : w.heap.size ≤ w2'.heap.size := HW.out.size
 replace HR_s := Lib.hid (HR_s.out.ext hbz)
 replace HR_o := Lib.hid (HR_o.out.ext hbz)
 replace HW := Lib.hid (ext_trans HW.out hbz)
 clear hbz
 have HR_u : Hid (RH w3' w2'.heap.size #[.string (showN z), .string (showD z)] 24) := Lib.hid hR0
 clear hR0
 generalize w2'.heap.size = b_u at *
 rw [HZ0.out] at HR_u
 clear HZQ HZ0
 go_wp2
 go_loopw [12, 16] (fun _ i wr => ∃ (k : Nat) (ya : Rat), k ≤ l.length ∧ i = .int .i64 (k : Int) ∧ Hid (ya = rsL s ((armL l).take k)) ∧ (RH wr w.heap.size #[.string (showN s), .string (showD s)] 24) ∧ (RH wr (w.heap.size + 1) #[.string ⟨#[]⟩, .string ⟨#[]⟩] 24) ∧ (RH wr b_u #[.string (showN ya), .string (showD ya)] 24) ∧ (Below w.heap.size w wr)) (fun _ i _ => l.length - (intOf i).toNat)
 case atStart => exact ⟨0, 0, by omega, rfl, rfl, HR_s.out, HR_o.out, HR_u.out, HW.out⟩
 case round =>
  obtain ⟨k, ya, hk, rfl, HYA, q_HR_s, q_HR_o, q_HR_u, q_HW⟩ := hrel
  clear HR_s HR_o HR_u HW
  have HR_s := Lib.hid q_HR_s
  have HR_o := Lib.hid q_HR_o
  have HR_u := Lib.hid q_HR_u
  have HW := Lib.hid q_HW
  clear q_HR_s q_HR_o q_HR_u q_HW
  generalize hX : wr = X at *
  clear hX
  have hl20 : l.length ≤ 20 := (ra_parts HZ.out).1.2
  have N_ya : Hid (Ln 2500 1700 ya) := Lib.hid (by rw [HYA.out]; exact rsL_ln HAO.out N_s.out (by rw [HLA.out]; exact hk))
  by_cases hlt : k < l.length
  ·have hgk := List.getElem?_eq_getElem hlt
   have HOK := Lib.hid (HKO.out _ (List.getElem_mem hlt))
   have hal : k < (armL l).length := by rw [HLA.out]; exact hlt
   have e9 : (armL l)[k] = MV.arm l[k] := by simp only [armL, List.getElem_map]
   have HTY := rsL_take s hal
   rw [e9] at HTY
   clear e9
   have HQA := ra_arm HZ.out (List.getElem_mem hlt)
   have N_yb0 := rsL_ln (k := k + 1) HAO.out N_s.out (by omega)
   generalize l[k] = mv at *
   obtain ⟨n, r⟩ := mv
   obtain ⟨pb, po, hp9, hcs⟩ := (HS.out.ext HW.out).elem (f := mnL) (fun _ => rfl) (by omega : 0 < 11) hgk
   subst hp9
   have e0 : X.cell? ⟨pb, po + k * 11, none⟩ = some (.int .i64 (n)) := hcs 0 _ rfl
   have e1 : X.cell? ⟨pb, po + k * 11 + 1, none⟩ = some (.string r.x.n) := hcs 1 _ rfl
   have e2 : X.cell? ⟨pb, po + k * 11 + 2, none⟩ = some (.string r.x.d) := hcs 2 _ rfl
   have e3 : X.cell? ⟨pb, po + k * 11 + 3, none⟩ = some (.string r.y.n) := hcs 3 _ rfl
   have e4 : X.cell? ⟨pb, po + k * 11 + 4, none⟩ = some (.string r.y.d) := hcs 4 _ rfl
   have e5 : X.cell? ⟨pb, po + k * 11 + 5, none⟩ = some (.string r.xx.n) := hcs 5 _ rfl
   have e6 : X.cell? ⟨pb, po + k * 11 + 6, none⟩ = some (.string r.xx.d) := hcs 6 _ rfl
   have e7 : X.cell? ⟨pb, po + k * 11 + 7, none⟩ = some (.string r.yy.n) := hcs 7 _ rfl
   have e8 : X.cell? ⟨pb, po + k * 11 + 8, none⟩ = some (.string r.yy.d) := hcs 8 _ rfl
   have e9 : X.cell? ⟨pb, po + k * 11 + 9, none⟩ = some (.string r.xy.n) := hcs 9 _ rfl
   have e10 : X.cell? ⟨pb, po + k * 11 + 10, none⟩ = some (.string r.xy.d) := hcs 10 _ rfl
   have hk0 : (0 : Int) ≤ (k : Int) := Int.natCast_nonneg _
   have hk1 : (k : Int) < (l.length : Int) := by omega
   have hk3 : (k : Int).toNat = k := by omega
   clear hcs hgk
   have HAF : Hid (atF 1 n r = 0) := Lib.hid (ra_at HQA)
   obtain ⟨⟨hn0, _, hn1⟩, _, hrq, hql, _⟩ := HQA
   simp only [MV.arm] at hn0 hn1 hrq hql HTY
   obtain ⟨q, hq⟩ : ∃ z, r.q = z := ⟨_, rfl⟩
   rw [hq] at hql hrq HTY
   subst hrq
   have HQR := Lib.hid hq
   clear hq
   have HQL := Lib.hid hql
   clear hql
   rw [← HYA.out] at HTY
   obtain ⟨yb, hyb⟩ : ∃ z, rsL s ((armL l).take (k + 1)) = z := ⟨_, rfl⟩
   rw [hyb] at HTY N_yb0
   have N_yb := Lib.hid N_yb0
   have HTY9 := Lib.hid HTY
   have HQ9 := Lib.hid hyb
   clear HTY hyb N_yb0 hal
   obtain ⟨aq, h9⟩ : ∃ z : Rat, spA n q = z := ⟨_, rfl⟩
   have E_aq := Lib.hid h9
   have N_aq : Hid (Ln 201 5 aq) := Lib.hid (by rw [← h9]; exact (HQL.out.spA hn0 hn1).mono (by omega) (by omega))
   clear h9
   obtain ⟨bq, h9⟩ : ∃ z : Rat, spB n q = z := ⟨_, rfl⟩
   have E_bq := Lib.hid h9
   have N_bq : Hid (Ln 201 5 bq) := Lib.hid (by rw [← h9]; exact (HQL.out.spB hn0 hn1).mono (by omega) (by omega))
   clear h9
   obtain ⟨cq, h9⟩ : ∃ z : Rat, spC n q = z := ⟨_, rfl⟩
   have E_cq := Lib.hid h9
   have N_cq : Hid (Ln 201 5 cq) := Lib.hid (by rw [← h9]; exact (HQL.out.spC hn0 hn1).mono (by omega) (by omega))
   clear h9
   obtain ⟨two, h9⟩ : ∃ z : Rat, ((2 : Int) : Rat) = z := ⟨_, rfl⟩
   have E_two := Lib.hid h9
   have N_two : Hid (Ln 1 0 two) := Lib.hid (by rw [← h9]; exact (Ln.int (z := 2) (a := 1) (by decide)).mono (by omega) (by omega))
   clear h9
   obtain ⟨sc, h9⟩ : ∃ z : Rat, s * cq = z := ⟨_, rfl⟩
   have E_sc := Lib.hid h9
   have N_sc : Hid (Ln 631 435 sc) := Lib.hid (by rw [← h9]; exact (Ln.mul N_s.out N_cq.out).mono (by omega) (by omega))
   clear h9
   obtain ⟨tc, h9⟩ : ∃ z : Rat, two * sc = z := ⟨_, rfl⟩
   have E_tc := Lib.hid h9
   have N_tc : Hid (Ln 632 435 tc) := Lib.hid (by rw [← h9]; exact (Ln.mul N_two.out N_sc.out).mono (by omega) (by omega))
   clear h9
   obtain ⟨d1, h9⟩ : ∃ z : Rat, aq - tc = z := ⟨_, rfl⟩
   have E_d1 := Lib.hid h9
   have N_d1 : Hid (Ln 638 440 d1) := Lib.hid (by rw [← h9]; exact (Ln.sub N_aq.out N_tc.out).mono (by omega) (by omega))
   clear h9
   obtain ⟨sb, h9⟩ : ∃ z : Rat, s * bq = z := ⟨_, rfl⟩
   have E_sb := Lib.hid h9
   have N_sb : Hid (Ln 631 435 sb) := Lib.hid (by rw [← h9]; exact (Ln.mul N_s.out N_bq.out).mono (by omega) (by omega))
   clear h9
   obtain ⟨sd, h9⟩ : ∃ z : Rat, s * sb = z := ⟨_, rfl⟩
   have E_sd := Lib.hid h9
   have N_sd : Hid (Ln 1061 865 sd) := Lib.hid (by rw [← h9]; exact (Ln.mul N_s.out N_sb.out).mono (by omega) (by omega))
   clear h9
   obtain ⟨re, h9⟩ : ∃ z : Rat, d1 + sd = z := ⟨_, rfl⟩
   have E_re := Lib.hid h9
   have N_re : Hid (Ln 1504 1305 re) := Lib.hid (by rw [← h9]; exact (Ln.add N_d1.out N_sd.out).mono (by omega) (by omega))
   clear h9
   have E_yb : Hid (ya + re = yb) := Lib.hid (by
    have e := HTY9.out
    have e2 : (2 : Rat) = two := E_two.out
    unfold rsQ at e
    simp only [E_aq.out, E_bq.out, E_cq.out] at e
    rw [e2, E_sc.out, E_tc.out, E_d1.out, E_sb.out, E_sd.out, E_re.out] at e
    exact e.symm)
   clear HTY9
   go_upto_region 5 with (fail)
   refine wp_rows1 fun w4' hbz hR0 => ?_
   have lt_s_m : w.heap.size < X.heap.size := HR_s.out.lt
   have lt_o_m : (w.heap.size + 1) < X.heap.size := HR_o.out.lt
   have lt_u_m : b_u < X.heap.size := HR_u.out.lt
   have le_m : w.heap.size ≤ X.heap.size := HW.out.size
   replace HR_s := Lib.hid (HR_s.out.ext hbz)
   replace HR_o := Lib.hid (HR_o.out.ext hbz)
   replace HR_u := Lib.hid (HR_u.out.ext hbz)
   replace HW := Lib.hid (ext_trans HW.out hbz)
   clear e0 e1 e2 e3 e4 e5 e6 e7 e8 e9 e10
   clear hbz
   have HR_m : Hid (RH w4' X.heap.size (mrA (n) q.r) 35) := Lib.hid hR0
   clear hR0
   generalize X.heap.size = b_m at *
   go_wp2_with (first | (refine wpList_load_row rfl _ _ rfl b_m rfl _ (mrA (n) q.r) _ _ HR_m.out Tryz.underlying35 rfl (mr_info _ _) ?_))
   refine (spreadM_at n q.r HOK.out w4').mono ?_
   rintro e w5' ⟨rfl, hbz⟩
   rw [HAF.out]
   simp only [rtN_0, rtD_0, HQR.out, E_aq.out, E_bq.out, E_cq.out]
   replace HR_s := Lib.hid (HR_s.out.ext hbz)
   replace HR_o := Lib.hid (HR_o.out.ext hbz)
   replace HR_u := Lib.hid (HR_u.out.ext hbz)
   replace HR_m := Lib.hid (HR_m.out.ext hbz)
   replace HW := Lib.hid (ext_trans HW.out hbz)
   clear hbz
   clear HR_m
   go_upto_region 6 with (fail)
   refine wp_rows3 fun w6' hbz hR0 hR1 hR2 => ?_
   have lt_s_x : w.heap.size < w5'.heap.size := HR_s.out.lt
   have lt_o_x : (w.heap.size + 1) < w5'.heap.size := HR_o.out.lt
   have lt_u_x : b_u < w5'.heap.size := HR_u.out.lt
   have le_x : w.heap.size ≤ w5'.heap.size := HW.out.size
   replace HR_s := Lib.hid (HR_s.out.ext hbz)
   replace HR_o := Lib.hid (HR_o.out.ext hbz)
   replace HR_u := Lib.hid (HR_u.out.ext hbz)
   replace HW := Lib.hid (ext_trans HW.out hbz)
   clear hbz
   have HR_x : Hid (RH w6' w5'.heap.size #[.string (showN aq), .string (showD aq)] 24) := Lib.hid hR0
   have HR_y : Hid (RH w6' (w5'.heap.size + 1) #[.string (showN bq), .string (showD bq)] 24) := Lib.hid hR1
   have HR_c : Hid (RH w6' (w5'.heap.size + 2) #[.string (showN cq), .string (showD cq)] 24) := Lib.hid hR2
   clear hR0 hR1 hR2
   generalize w5'.heap.size = b_x at *
   go_upto_region 8 with (fail)
   obtain ⟨c_u_0, c_u_1⟩ := zs2 HR_u.out
   obtain ⟨c_x_0, c_x_1⟩ := zs2 HR_x.out
   obtain ⟨c_y_0, c_y_1⟩ := zs2 HR_y.out
   obtain ⟨c_c_0, c_c_1⟩ := zs2 HR_c.out
   obtain ⟨c_s_0, c_s_1⟩ := zs2 HR_s.out
   refine Grow.wp_region_grow 15 [TP.eq (rtV ya), TP.eq (rtV aq), TP.eq (rtV two), TP.eq (rtV s), TP.eq (rtV cq), TP.eq (rtV sc), TP.eq (rtV tc), TP.eq (rtV d1), TP.eq (rtV s), TP.eq (rtV s), TP.eq (rtV bq), TP.eq (rtV sb), TP.eq (rtV sd), TP.eq (rtV re), TP.eq (rtV yb)] [[], [], [], [], [], [3, 4], [2, 5], [1, 6], [], [], [], [9, 10], [8, 11], [7, 12], [0, 13]] (by kernel_rfl) (by kernel_rfl) ⟨?o0r, ?o1r, ?o2r, ?o3r, ?o4r, ?o5r, ?o6r, ?o7r, ?o8r, ?o9r, ?o10r, ?o11r, ?o12r, ?o13r, ?o14r, trivial⟩ ?_
   case o0r | o1r | o3r | o4r | o8r | o9r | o10r =>
    intro w' hb
    have c_u_0' := zzc hb c_u_0
    have c_u_1' := zzc hb c_u_1
    have c_x_0' := zzc hb c_x_0
    have c_x_1' := zzc hb c_x_1
    have c_s_0' := zzc hb c_s_0
    have c_s_1' := zzc hb c_s_1
    have c_c_0' := zzc hb c_c_0
    have c_c_1' := zzc hb c_c_1
    have c_y_0' := zzc hb c_y_0
    have c_y_1' := zzc hb c_y_1
    show wpList _ _ _ _ _ _
    go_wp2
    exact ⟨rfl, Below.refl _ _, rfl⟩
   case o2r =>
    intro w' hb
    show wpList _ _ _ _ _ _
    go_wp2_with fail
    refine (whole_z 2 two E_two.out (by decide) (by decide) w' (HT0.out.ext (ext_trans HW.out hb))).mono ?_
    rintro e wz ⟨rfl, hbz⟩
    go_wp2
    exact ⟨rfl, hbz, rfl⟩
   case o5r =>
    intro w' hb v1 hv1 v2 hv2
    cases hv1
    cases hv2
    show wpList _ _ _ _ _ _
    simp only [Grow.dstOf, zzp, Act.put]
    go_wp2_with fail
    refine (times_is s cq sc E_sc.out (N_s.out.fits (by omega) (by omega)) (N_cq.out.fits (by omega) (by omega)) (N_sc.out.fits (by omega) (by omega)) w' (HT0.out.ext (ext_trans HW.out hb))).mono ?_
    rintro e wz ⟨rfl, hbz⟩
    go_wp2
    exact ⟨rfl, hbz, rfl⟩
   case o6r =>
    intro w' hb v1 hv1 v2 hv2
    cases hv1
    cases hv2
    show wpList _ _ _ _ _ _
    simp only [Grow.dstOf, zzp, Act.put]
    go_wp2_with fail
    refine (times_is two sc tc E_tc.out (N_two.out.fits (by omega) (by omega)) (N_sc.out.fits (by omega) (by omega)) (N_tc.out.fits (by omega) (by omega)) w' (HT0.out.ext (ext_trans HW.out hb))).mono ?_
    rintro e wz ⟨rfl, hbz⟩
    go_wp2
    exact ⟨rfl, hbz, rfl⟩
   case o7r =>
    intro w' hb v1 hv1 v2 hv2
    cases hv1
    cases hv2
    show wpList _ _ _ _ _ _
    simp only [Grow.dstOf, zzp, Act.put]
    go_wp2_with fail
    refine (minus_is aq tc d1 E_d1.out (N_aq.out.fits (by omega) (by omega)) (N_tc.out.fits (by omega) (by omega)) (N_d1.out.fits (by omega) (by omega)) w' (HT0.out.ext (ext_trans HW.out hb))).mono ?_
    rintro e wz ⟨rfl, hbz⟩
    go_wp2
    exact ⟨rfl, hbz, rfl⟩
   case o11r =>
    intro w' hb v1 hv1 v2 hv2
    cases hv1
    cases hv2
    show wpList _ _ _ _ _ _
    simp only [Grow.dstOf, zzp, Act.put]
    go_wp2_with fail
    refine (times_is s bq sb E_sb.out (N_s.out.fits (by omega) (by omega)) (N_bq.out.fits (by omega) (by omega)) (N_sb.out.fits (by omega) (by omega)) w' (HT0.out.ext (ext_trans HW.out hb))).mono ?_
    rintro e wz ⟨rfl, hbz⟩
    go_wp2
    exact ⟨rfl, hbz, rfl⟩
   case o12r =>
    intro w' hb v1 hv1 v2 hv2
    cases hv1
    cases hv2
    show wpList _ _ _ _ _ _
    simp only [Grow.dstOf, zzp, Act.put]
    go_wp2_with fail
    refine (times_is s sb sd E_sd.out (N_s.out.fits (by omega) (by omega)) (N_sb.out.fits (by omega) (by omega)) (N_sd.out.fits (by omega) (by omega)) w' (HT0.out.ext (ext_trans HW.out hb))).mono ?_
    rintro e wz ⟨rfl, hbz⟩
    go_wp2
    exact ⟨rfl, hbz, rfl⟩
   case o13r =>
    intro w' hb v1 hv1 v2 hv2
    cases hv1
    cases hv2
    show wpList _ _ _ _ _ _
    simp only [Grow.dstOf, zzp, Act.put]
    go_wp2_with fail
    refine (plus_is d1 sd re E_re.out (N_d1.out.fits (by omega) (by omega)) (N_sd.out.fits (by omega) (by omega)) (N_re.out.fits (by omega) (by omega)) w' (HT0.out.ext (ext_trans HW.out hb))).mono ?_
    rintro e wz ⟨rfl, hbz⟩
    go_wp2
    exact ⟨rfl, hbz, rfl⟩
   case o14r =>
    intro w' hb v1 hv1 v2 hv2
    cases hv1
    cases hv2
    show wpList _ _ _ _ _ _
    simp only [Grow.dstOf, zzp, Act.put]
    go_wp2_with fail
    refine (plus_is ya re yb E_yb.out (N_ya.out.fits (by omega) (by omega)) (N_re.out.fits (by omega) (by omega)) (N_yb.out.fits (by omega) (by omega)) w' (HT0.out.ext (ext_trans HW.out hb))).mono ?_
    rintro e wz ⟨rfl, hbz⟩
    go_wp2
    exact ⟨rfl, hbz, rfl⟩
   intro w7' hbz u0 hu0 u1 hu1 u2 hu2 u3 hu3 u4 hu4 u5 hu5 u6 hu6 u7 hu7 u8 hu8 u9 hu9 u10 hu10 u11 hu11 u12 hu12 u13 hu13 u14 hu14
   obtain rfl : u14 = _ := hu14
   clear hu0 hu1 hu2 hu3 hu4 hu5 hu6 hu7 hu8 hu9 hu10 hu11 hu12 hu13
   replace HR_s := Lib.hid (HR_s.out.ext hbz)
   replace HR_o := Lib.hid (HR_o.out.ext hbz)
   replace HR_u := Lib.hid (HR_u.out.ext hbz)
   replace HR_x := Lib.hid (HR_x.out.ext hbz)
   replace HR_y := Lib.hid (HR_y.out.ext hbz)
   replace HR_c := Lib.hid (HR_c.out.ext hbz)
   replace HW := Lib.hid (ext_trans HW.out hbz)
   clear c_u_0 c_u_1 c_x_0 c_x_1 c_y_0 c_y_1 c_c_0 c_c_1 c_s_0 c_s_1
   clear hbz
   clear HR_x
   clear HR_y
   clear HR_c
   show wpList _ _ _ _ _ _
   simp only [Act.put, zzp]
   obtain ⟨c_u_0, c_u_1⟩ := zs2 HR_u.out
   have f_u_0 := HR_u.out.fre 0
   have f_u_1 := HR_u.out.fre 1
   go_upto_region 9 with (fail)
   obtain ⟨w8', hX⟩ : ∃ Z9, Z9 = ((w7'.setCell ⟨b_u, 0, none⟩ (.string (showN yb))).setCell ⟨b_u, 1, none⟩ (.string (showD yb))) := ⟨_, rfl⟩
   rw [← hX]
   have n_u : Hid (RH w8' b_u #[.string (showN yb), .string (showD yb)] 24) := by rw [hX]; exact Lib.hid (((HR_u.out).set 0 (.string (showN yb))).set 1 (.string (showD yb)))
   have n_s : Hid (RH w8' w.heap.size #[.string (showN s), .string (showD s)] 24) := by rw [hX]; exact Lib.hid (zzo (zzo (HR_s.out) (by omega)) (by omega))
   have n_o : Hid (RH w8' (w.heap.size + 1) #[.string ⟨#[]⟩, .string ⟨#[]⟩] 24) := by rw [hX]; exact Lib.hid (zzo (zzo (HR_o.out) (by omega)) (by omega))
   have HK_ : ∀ p : Addr, p.block ≠ b_u → w8'.cell? p = w7'.cell? p := fun p hp => by rw [hX]; exact (cs_other hp).trans (cs_other hp)
   have nW : Hid (Below w.heap.size w w8') := by rw [hX]; exact Lib.hid (zzw (zzw (HW.out) (by omega)) (by omega))
   clear c_u_0 c_u_1 f_u_0 f_u_1
   clear hX HK_ HW HR_s HR_o HR_u 
   have HR_s := n_s; clear n_s
   have HR_o := n_o; clear n_o
   have HR_u := n_u; clear n_u
   have HW := nW; clear nW
   go_wp2
   go_roundw
   case rel => exact ⟨k + 1, yb, by omega, by go_num, Lib.hid HQ9.out.symm, HR_s.out, HR_o.out, HR_u.out, HW.out⟩
   case measure => simp [intOf]; omega
  ·have HYT : Hid (rsL s (armL l) = ya) := Lib.hid (by rw [HYA.out, show k = (armL l).length by rw [HLA.out]; omega, List.take_length])
   obtain ⟨c_u_0, c_u_1⟩ := zs2 HR_u.out
   obtain ⟨c_o_0, c_o_1⟩ := zs2 HR_o.out
   have f_o_0 := HR_o.out.fre 0
   have f_o_1 := HR_o.out.fre 1
   go_wp2
   clear HR_u
   obtain ⟨w4', hX⟩ : ∃ Z9, Z9 = ((X.setCell ⟨(w.heap.size + 1), 0, none⟩ (.string (showN ya))).setCell ⟨(w.heap.size + 1), 1, none⟩ (.string (showD ya))) := ⟨_, rfl⟩
   rw [← hX]
   have n_o : Hid (RH w4' (w.heap.size + 1) #[.string (showN ya), .string (showD ya)] 24) := by rw [hX]; exact Lib.hid (((HR_o.out).set 0 (.string (showN ya))).set 1 (.string (showD ya)))
   have n_s : Hid (RH w4' w.heap.size #[.string (showN s), .string (showD s)] 24) := by rw [hX]; exact Lib.hid (zzo (zzo (HR_s.out) (by omega)) (by omega))
   have HK_ : ∀ p : Addr, p.block ≠ (w.heap.size + 1) → w4'.cell? p = X.cell? p := fun p hp => by rw [hX]; exact (cs_other hp).trans (cs_other hp)
   have nW : Hid (Below w.heap.size w w4') := by rw [hX]; exact Lib.hid (zzw (zzw (HW.out) (by omega)) (by omega))
   clear c_u_0 c_u_1 c_o_0 c_o_1 f_o_0 f_o_1
   clear hX HK_ HW HR_s HR_o 
   have HR_s := n_s; clear n_s
   have HR_o := n_o; clear n_o
   have HW := nW; clear nW
   refine bodyPost_ret (v := .tuple #[.agg #[.string (showN ya), .string (showD ya)], .bool true]) ?_ rfl ⟨by rw [HYT.out], HW.out⟩
   have hld := run_loadVar_row (P := Tryz.prog) _ _ _ 24 _ _ _ HR_o.out Tryz.underlying24 rfl (by kernel_rfl : (Tryz.prog.info? 24).map (·.size) = some 2)
   rw [results_cell_tmp rfl]
   simp [asAddr, Result.andThen, hld]
end Nt
end Go.Proofs.YtlbnjgnbpiidaaaGreatDoor
