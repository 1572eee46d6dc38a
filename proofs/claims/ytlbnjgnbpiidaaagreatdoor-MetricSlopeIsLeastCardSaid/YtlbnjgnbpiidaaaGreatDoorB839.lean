/- Spread of package metric. Printed by gen_momf.py. -/
import Derived.Test.YtlbnjgnbpiidaaaGreatDoorB835
import Derived.Test.YtlbnjgnbpiidaaaGreatDoorB837
import Derived.Test.YtlbnjgnbpiidaaaGreatDoorB848
import Derived.Test.YtlbnjgnbpiidaaaGreatDoorB836
import Derived.Test.YtlbnjgnbpiidaaaGreatDoorB838
import Derived.BigRegion
namespace Go.Proofs.YtlbnjgnbpiidaaaGreatDoor
open Go.RowKit
namespace Nm
open _root_.Go.Proofs.YtlbnjgnbpiidaaaGreatDoor.Nt (RH RH.cell RH.box RH.row RH.lt RH.new RH.ext RH.fre RH.set RH.other RH.row_other store_cells)
theorem showN_ne (q : Rat) : showN q ≠ ⟨#[]⟩ := fun h => by
 have h2 := (cut_show q).2
 rw [h] at h2
 have h3 : decS q.num.natAbs = [] := h2.symm
 unfold decS at h3
 split at h3 <;> simp at h3
theorem row_far {w : World} {b p o : Nat} {ty : TypeId} {s : ByteArray} (h : RH w b #[.string ⟨#[]⟩, .string ⟨#[]⟩] ty) (hc : w.cell? ⟨p, o, none⟩ = some (.string s)) (hs : s ≠ ⟨#[]⟩) : p ≠ b := fun e => by
 subst e
 rw [h.cell o] at hc
 match o, hc with
 | 0, hc => exact hs (by injection hc with hc; injection hc with hc; exact hc.symm)
 | 1, hc => exact hs (by injection hc with hc; injection hc with hc; exact hc.symm)
 | o + 2, hc => simp at hc
set_option maxRecDepth 100000 in
set_option maxHeartbeats 16000000 in
theorem spreadM_at (n : Int) (r : R5) (hok : r.ok) (w : World) : Calls Tryz.prog 45 #[.agg (mrA n r)] w (S3Post w (atF 1 n r) (spA n r.q) (spB n r.q) (spC n r.q)) := by
 have HOK := Lib.hid hok
 clear hok
 go_enter Tryz.func45, Tryz.ntmps45
 go_upto_region 1 with (fail)
 refine wp_rows4 fun w1' hbz hR0 hR1 hR2 hR3 => ?_
 have HR_m : Hid (RH w1' w.heap.size (mrA (n) r) 35) := Lib.hid hR0
 have HR_oa : Hid (RH w1' (w.heap.size + 1) #[.string ⟨#[]⟩, .string ⟨#[]⟩] 24) := Lib.hid hR1
 have HR_ob : Hid (RH w1' (w.heap.size + 2) #[.string ⟨#[]⟩, .string ⟨#[]⟩] 24) := Lib.hid hR2
 have HR_oc : Hid (RH w1' (w.heap.size + 3) #[.string ⟨#[]⟩, .string ⟨#[]⟩] 24) := Lib.hid hR3
 have HW := Lib.hid hbz
 clear hbz hR0 hR1 hR2 hR3
 go_wp2_with (first | (refine wpList_load_row rfl _ _ rfl w.heap.size rfl _ (mrA (n) r) _ _ HR_m.out Tryz.underlying35 rfl (mr_info _ _) ?_))
 refine (atLeast_at 1 n r HOK.out w1').mono ?_
 rintro e w2' ⟨k9, t9, rfl, hx9, hbz⟩
 replace HR_m := Lib.hid (HR_m.out.ext hbz)
 replace HR_oa := Lib.hid (HR_oa.out.ext hbz)
 replace HR_ob := Lib.hid (HR_ob.out.ext hbz)
 replace HR_oc := Lib.hid (HR_oc.out.ext hbz)
 replace HW := Lib.hid (ext_trans HW.out hbz)
 clear hbz
 have HRD : Hid (RdIf w2' (atF 1 n r) n r k9 t9) := Lib.hid hx9
 clear hx9
 have hsz : (smA (k9) t9).size = 16 := rfl
 have hsc := run_storeCells_new (P := Tryz.prog) w2' 59 #[.int .i64 0, .bool false, .slice none 0 0, .slice none 0 0, .bool false, .slice none 0 0, .slice none 0 0, .bool false, .slice none 0 0, .slice none 0 0, .bool false, .slice none 0 0, .slice none 0 0, .bool false, .slice none 0 0, .slice none 0 0] (smA (k9) t9) (sm_info _ _) rfl (sm_all _ _)
 go_upto_region 2 with (fail)
 clear hsc hsz
 refine wp_rows1 fun w3' hbz hR0 => ?_
 have lt_m_s : w.heap.size < w2'.heap.size := HR_m.out.lt
 have lt_oa_s : (w.heap.size + 1) < w2'.heap.size := HR_oa.out.lt
 have lt_ob_s : (w.heap.size + 2) < w2'.heap.size := HR_ob.out.lt
 have lt_oc_s : (w.heap.size + 3) < w2'.heap.size := HR_oc.out.lt
 have le_s : w.heap.size ≤ w2'.heap.size := HW.out.size
 replace HR_m := Lib.hid (HR_m.out.ext hbz)
 replace HR_oa := Lib.hid (HR_oa.out.ext hbz)
 replace HR_ob := Lib.hid (HR_ob.out.ext hbz)
 replace HR_oc := Lib.hid (HR_oc.out.ext hbz)
 replace HRD := Lib.hid (HRD.out.ext hbz)
 replace HW := Lib.hid (ext_trans HW.out hbz)
 clear hbz
 have HR_s : Hid (RH w3' w2'.heap.size (smA (k9) t9) 59) := Lib.hid hR0
 clear hR0
 generalize w2'.heap.size = b_s at *
 by_cases hz : atF 1 n r = 0
 ·have hne2 : (atF 1 n r != 0) = false := by simp [hz]
  have HZ := Lib.hid hz
  obtain rfl : n = k9 := (HRD.out hz).1.symm
  have HX : Hid (SX w3' t9 r.q) := Lib.hid ((HRD.out hz).2)
  clear HRD
  obtain ⟨_, hn0, hn1, hql⟩ := at_ql hz
  have HQL := Lib.hid hql
  have HNB := Lib.hid (And.intro hn0 hn1)
  clear hz hql
  go_wp2_with (first | (refine wpList_load_row rfl _ _ rfl b_s rfl _ (smA (n) t9) _ _ HR_s.out Tryz.underlying59 rfl (sm_info _ _) ?_))
  refine (spread_at n hn0 hn1 t9 r.q w3' HX.out HQL.out).mono ?_
  rintro e w4' ⟨t1, t2, t3, rfl, hx1, hx2, hx3, hbz⟩
  replace HR_m := Lib.hid (HR_m.out.ext hbz)
  replace HR_oa := Lib.hid (HR_oa.out.ext hbz)
  replace HR_ob := Lib.hid (HR_ob.out.ext hbz)
  replace HR_oc := Lib.hid (HR_oc.out.ext hbz)
  replace HR_s := Lib.hid (HR_s.out.ext hbz)
  replace HX := Lib.hid (HX.out.ext hbz)
  replace HW := Lib.hid (ext_trans HW.out hbz)
  clear hbz
  have HX1 : Hid (XR w4' (y3V t1) (spA n r.q)) := Lib.hid hx1
  clear hx1
  have HX2 : Hid (XR w4' (y3V t2) (spB n r.q)) := Lib.hid hx2
  clear hx2
  have HX3 : Hid (XR w4' (y3V t3) (spC n r.q)) := Lib.hid hx3
  clear hx3
  obtain ⟨qa, hqa⟩ : ∃ z, spA n r.q = z := ⟨_, rfl⟩
  obtain ⟨qb, hqb⟩ : ∃ z, spB n r.q = z := ⟨_, rfl⟩
  obtain ⟨qc, hqc⟩ : ∃ z, spC n r.q = z := ⟨_, rfl⟩
  have HE := Lib.hid (And.intro hqa (And.intro hqb hqc))
  have HFF : Hid ((Fits qa ∧ Sm qa) ∧ (Fits qb ∧ Sm qb) ∧ Fits qc ∧ Sm qc) := Lib.hid (by
   have h1 := HQL.out.spA hn0 hn1
   have h2 := HQL.out.spB hn0 hn1
   have h3 := HQL.out.spC hn0 hn1
   rw [hqa] at h1; rw [hqb] at h2; rw [hqc] at h3
   exact ⟨⟨h1.fits (by omega) (by omega), h1.sm (by omega) (by omega)⟩, ⟨h2.fits (by omega) (by omega), h2.sm (by omega) (by omega)⟩, h3.fits (by omega) (by omega), h3.sm (by omega) (by omega)⟩)
  rw [hqa] at HX1
  rw [hqb] at HX2
  rw [hqc] at HX3
  clear hqa hqb hqc
  go_upto_region 5 with (fail)
  refine wp_rows3 fun w5' hbz hR0 hR1 hR2 => ?_
  have lt_m_x : w.heap.size < w4'.heap.size := HR_m.out.lt
  have lt_oa_x : (w.heap.size + 1) < w4'.heap.size := HR_oa.out.lt
  have lt_ob_x : (w.heap.size + 2) < w4'.heap.size := HR_ob.out.lt
  have lt_oc_x : (w.heap.size + 3) < w4'.heap.size := HR_oc.out.lt
  have lt_s_x : b_s < w4'.heap.size := HR_s.out.lt
  have le_x : w.heap.size ≤ w4'.heap.size := HW.out.size
  replace HR_m := Lib.hid (HR_m.out.ext hbz)
  replace HR_oa := Lib.hid (HR_oa.out.ext hbz)
  replace HR_ob := Lib.hid (HR_ob.out.ext hbz)
  replace HR_oc := Lib.hid (HR_oc.out.ext hbz)
  replace HR_s := Lib.hid (HR_s.out.ext hbz)
  replace HX := Lib.hid (HX.out.ext hbz)
  replace HX1 := Lib.hid (HX1.out.ext hbz)
  replace HX2 := Lib.hid (HX2.out.ext hbz)
  replace HX3 := Lib.hid (HX3.out.ext hbz)
  replace HW := Lib.hid (ext_trans HW.out hbz)
  clear hbz
  have HR_x : Hid (RH w5' w4'.heap.size #[.bool t1.b, .slice t1.a1 t1.n1 t1.c1, .slice t1.a2 t1.n2 t1.c2] 52) := Lib.hid hR0
  have HR_y : Hid (RH w5' (w4'.heap.size + 1) #[.bool t2.b, .slice t2.a1 t2.n1 t2.c1, .slice t2.a2 t2.n2 t2.c2] 52) := Lib.hid hR1
  have HR_z : Hid (RH w5' (w4'.heap.size + 2) #[.bool t3.b, .slice t3.a1 t3.n1 t3.c1, .slice t3.a2 t3.n2 t3.c2] 52) := Lib.hid hR2
  clear hR0 hR1 hR2
  generalize w4'.heap.size = b_x at *
  obtain ⟨c_x_0, c_x_1, c_x_2⟩ := zs3 HR_x.out
  obtain ⟨c_y_0, c_y_1, c_y_2⟩ := zs3 HR_y.out
  obtain ⟨c_z_0, c_z_1, c_z_2⟩ := zs3 HR_z.out
  go_wp2_with fail
  refine (ratios3_at qa qb qc t1 t2 t3 w5' HX1.out HX2.out HX3.out HFF.out).mono ?_
  rintro e w6' ⟨pa, pc, rfl, hs9, hbz⟩
  replace HR_m := Lib.hid (HR_m.out.ext hbz)
  replace HR_oa := Lib.hid (HR_oa.out.ext hbz)
  replace HR_ob := Lib.hid (HR_ob.out.ext hbz)
  replace HR_oc := Lib.hid (HR_oc.out.ext hbz)
  replace HR_s := Lib.hid (HR_s.out.ext hbz)
  replace HR_x := Lib.hid (HR_x.out.ext hbz)
  replace HR_y := Lib.hid (HR_y.out.ext hbz)
  replace HR_z := Lib.hid (HR_z.out.ext hbz)
  replace HX := Lib.hid (HX.out.ext hbz)
  replace HX1 := Lib.hid (HX1.out.ext hbz)
  replace HX2 := Lib.hid (HX2.out.ext hbz)
  replace HX3 := Lib.hid (HX3.out.ext hbz)
  replace HW := Lib.hid (ext_trans HW.out hbz)
  clear c_x_0 c_x_1 c_x_2 c_y_0 c_y_1 c_y_2 c_z_0 c_z_1 c_z_2
  clear hbz
  have HSL : Hid (Sl w6' (.slice pa 3 pc) 3 ([qa, qb, qc].flatMap rtC)) := Lib.hid hs9
  clear hs9
  clear HX
  clear HX1
  clear HX2
  clear HX3
  clear HR_x
  clear HR_y
  clear HR_z
  clear HR_s
  obtain ⟨pb0, po0, hp0, hc0⟩ := HSL.out.elem (l := [qa, qb, qc]) (k := 0) (x := qa) (f := rtC) (fun _ => rfl) (by omega : 0 < 2) rfl
  subst hp0
  have e00 : w6'.cell? ⟨pb0, po0, none⟩ = some (.string (showN qa)) := hc0 0 _ rfl
  have e01 : w6'.cell? ⟨pb0, po0 + 1, none⟩ = some (.string (showD qa)) := hc0 1 _ rfl
  clear hc0
  obtain ⟨pb1, po1, hp1, hc1⟩ := HSL.out.elem (l := [qa, qb, qc]) (k := 1) (x := qb) (f := rtC) (fun _ => rfl) (by omega : 0 < 2) rfl
  obtain ⟨rfl, rfl⟩ : pb0 = pb1 ∧ po0 = po1 := by cases hp1; exact ⟨rfl, rfl⟩
  clear hp1
  have e10 : w6'.cell? ⟨pb0, po0 + 2, none⟩ = some (.string (showN qb)) := hc1 0 _ rfl
  have e11 : w6'.cell? ⟨pb0, po0 + 2 + 1, none⟩ = some (.string (showD qb)) := hc1 1 _ rfl
  clear hc1
  obtain ⟨pb2, po2, hp2, hc2⟩ := HSL.out.elem (l := [qa, qb, qc]) (k := 2) (x := qc) (f := rtC) (fun _ => rfl) (by omega : 0 < 2) rfl
  obtain ⟨rfl, rfl⟩ : pb0 = pb2 ∧ po0 = po2 := by cases hp2; exact ⟨rfl, rfl⟩
  clear hp2
  have e20 : w6'.cell? ⟨pb0, po0 + 4, none⟩ = some (.string (showN qc)) := hc2 0 _ rfl
  have e21 : w6'.cell? ⟨pb0, po0 + 4 + 1, none⟩ = some (.string (showD qc)) := hc2 1 _ rfl
  clear hc2
  clear HSL
  have ne_oa : pb0 ≠ (w.heap.size + 1) := row_far HR_oa.out e00 (showN_ne qa)
  have nr_oa := ne_oa.symm
  have ne_ob : pb0 ≠ (w.heap.size + 2) := row_far HR_ob.out e00 (showN_ne qa)
  have nr_ob := ne_ob.symm
  have ne_oc : pb0 ≠ (w.heap.size + 3) := row_far HR_oc.out e00 (showN_ne qa)
  have nr_oc := ne_oc.symm
  go_upto_region 8 with (fail)
  obtain ⟨w7', hZ0⟩ : ∃ Z9, Z9 = w6'.drew := ⟨_, rfl⟩
  have r0_m : Hid (RH w7' w.heap.size (mrA (n) r) 35) := by rw [hZ0]; exact HR_m
  have r0_oa : Hid (RH w7' (w.heap.size + 1) #[.string ⟨#[]⟩, .string ⟨#[]⟩] 24) := by rw [hZ0]; exact HR_oa
  have r0_ob : Hid (RH w7' (w.heap.size + 2) #[.string ⟨#[]⟩, .string ⟨#[]⟩] 24) := by rw [hZ0]; exact HR_ob
  have r0_oc : Hid (RH w7' (w.heap.size + 3) #[.string ⟨#[]⟩, .string ⟨#[]⟩] 24) := by rw [hZ0]; exact HR_oc
  have e00_0 : w7'.cell? ⟨pb0, po0, none⟩ = some (.string (showN qa)) := by rw [hZ0]; exact e00
  have e01_0 : w7'.cell? ⟨pb0, po0 + 1, none⟩ = some (.string (showD qa)) := by rw [hZ0]; exact e01
  have e10_0 : w7'.cell? ⟨pb0, po0 + 2, none⟩ = some (.string (showN qb)) := by rw [hZ0]; exact e10
  have e11_0 : w7'.cell? ⟨pb0, po0 + 2 + 1, none⟩ = some (.string (showD qb)) := by rw [hZ0]; exact e11
  have e20_0 : w7'.cell? ⟨pb0, po0 + 4, none⟩ = some (.string (showN qc)) := by rw [hZ0]; exact e20
  have e21_0 : w7'.cell? ⟨pb0, po0 + 4 + 1, none⟩ = some (.string (showD qc)) := by rw [hZ0]; exact e21
  have HW0 : Hid (Below w.heap.size w w7') := by rw [hZ0]; have h9 := HW.out; exact Lib.hid ⟨h9.1, h9.2, h9.3, h9.4, h9.5⟩
  obtain ⟨w8', hZ1⟩ : ∃ Z9, Z9 = ((w7'.setCell ⟨(w.heap.size + 1), 0, none⟩ (.string (showN qa))).setCell ⟨(w.heap.size + 1), 1, none⟩ (.string (showD qa))) := ⟨_, rfl⟩
  have r1_m : Hid (RH w8' w.heap.size (mrA (n) r) 35) := by rw [hZ1]; exact Lib.hid (zzo (zzo (r0_m.out) (by omega)) (by omega))
  have r1_oa : Hid (RH w8' (w.heap.size + 1) #[.string (showN qa), .string (showD qa)] 24) := by rw [hZ1]; exact Lib.hid (((r0_oa.out).set 0 (.string (showN qa))).set 1 (.string (showD qa)))
  have r1_ob : Hid (RH w8' (w.heap.size + 2) #[.string ⟨#[]⟩, .string ⟨#[]⟩] 24) := by rw [hZ1]; exact Lib.hid (zzo (zzo (r0_ob.out) (by omega)) (by omega))
  have r1_oc : Hid (RH w8' (w.heap.size + 3) #[.string ⟨#[]⟩, .string ⟨#[]⟩] 24) := by rw [hZ1]; exact Lib.hid (zzo (zzo (r0_oc.out) (by omega)) (by omega))
  have e00_1 : w8'.cell? ⟨pb0, po0, none⟩ = some (.string (showN qa)) := by rw [hZ1]; exact (cs_other (p := ⟨pb0, po0, none⟩) (ne_oa)).trans ((cs_other (p := ⟨pb0, po0, none⟩) (ne_oa)).trans (e00_0))
  have e01_1 : w8'.cell? ⟨pb0, po0 + 1, none⟩ = some (.string (showD qa)) := by rw [hZ1]; exact (cs_other (p := ⟨pb0, po0 + 1, none⟩) (ne_oa)).trans ((cs_other (p := ⟨pb0, po0 + 1, none⟩) (ne_oa)).trans (e01_0))
  have e10_1 : w8'.cell? ⟨pb0, po0 + 2, none⟩ = some (.string (showN qb)) := by rw [hZ1]; exact (cs_other (p := ⟨pb0, po0 + 2, none⟩) (ne_oa)).trans ((cs_other (p := ⟨pb0, po0 + 2, none⟩) (ne_oa)).trans (e10_0))
  have e11_1 : w8'.cell? ⟨pb0, po0 + 2 + 1, none⟩ = some (.string (showD qb)) := by rw [hZ1]; exact (cs_other (p := ⟨pb0, po0 + 2 + 1, none⟩) (ne_oa)).trans ((cs_other (p := ⟨pb0, po0 + 2 + 1, none⟩) (ne_oa)).trans (e11_0))
  have e20_1 : w8'.cell? ⟨pb0, po0 + 4, none⟩ = some (.string (showN qc)) := by rw [hZ1]; exact (cs_other (p := ⟨pb0, po0 + 4, none⟩) (ne_oa)).trans ((cs_other (p := ⟨pb0, po0 + 4, none⟩) (ne_oa)).trans (e20_0))
  have e21_1 : w8'.cell? ⟨pb0, po0 + 4 + 1, none⟩ = some (.string (showD qc)) := by rw [hZ1]; exact (cs_other (p := ⟨pb0, po0 + 4 + 1, none⟩) (ne_oa)).trans ((cs_other (p := ⟨pb0, po0 + 4 + 1, none⟩) (ne_oa)).trans (e21_0))
  have HW1 : Hid (Below w.heap.size w w8') := by rw [hZ1]; exact Lib.hid (zzw (zzw (HW0.out) (by omega)) (by omega))
  obtain ⟨w9', hZ2⟩ : ∃ Z9, Z9 = ((w8'.setCell ⟨(w.heap.size + 2), 0, none⟩ (.string (showN qb))).setCell ⟨(w.heap.size + 2), 1, none⟩ (.string (showD qb))) := ⟨_, rfl⟩
  have r2_m : Hid (RH w9' w.heap.size (mrA (n) r) 35) := by rw [hZ2]; exact Lib.hid (zzo (zzo (r1_m.out) (by omega)) (by omega))
  have r2_oa : Hid (RH w9' (w.heap.size + 1) #[.string (showN qa), .string (showD qa)] 24) := by rw [hZ2]; exact Lib.hid (zzo (zzo (r1_oa.out) (by omega)) (by omega))
  have r2_ob : Hid (RH w9' (w.heap.size + 2) #[.string (showN qb), .string (showD qb)] 24) := by rw [hZ2]; exact Lib.hid (((r1_ob.out).set 0 (.string (showN qb))).set 1 (.string (showD qb)))
  have r2_oc : Hid (RH w9' (w.heap.size + 3) #[.string ⟨#[]⟩, .string ⟨#[]⟩] 24) := by rw [hZ2]; exact Lib.hid (zzo (zzo (r1_oc.out) (by omega)) (by omega))
  have e00_2 : w9'.cell? ⟨pb0, po0, none⟩ = some (.string (showN qa)) := by rw [hZ2]; exact (cs_other (p := ⟨pb0, po0, none⟩) (ne_ob)).trans ((cs_other (p := ⟨pb0, po0, none⟩) (ne_ob)).trans (e00_1))
  have e01_2 : w9'.cell? ⟨pb0, po0 + 1, none⟩ = some (.string (showD qa)) := by rw [hZ2]; exact (cs_other (p := ⟨pb0, po0 + 1, none⟩) (ne_ob)).trans ((cs_other (p := ⟨pb0, po0 + 1, none⟩) (ne_ob)).trans (e01_1))
  have e10_2 : w9'.cell? ⟨pb0, po0 + 2, none⟩ = some (.string (showN qb)) := by rw [hZ2]; exact (cs_other (p := ⟨pb0, po0 + 2, none⟩) (ne_ob)).trans ((cs_other (p := ⟨pb0, po0 + 2, none⟩) (ne_ob)).trans (e10_1))
  have e11_2 : w9'.cell? ⟨pb0, po0 + 2 + 1, none⟩ = some (.string (showD qb)) := by rw [hZ2]; exact (cs_other (p := ⟨pb0, po0 + 2 + 1, none⟩) (ne_ob)).trans ((cs_other (p := ⟨pb0, po0 + 2 + 1, none⟩) (ne_ob)).trans (e11_1))
  have e20_2 : w9'.cell? ⟨pb0, po0 + 4, none⟩ = some (.string (showN qc)) := by rw [hZ2]; exact (cs_other (p := ⟨pb0, po0 + 4, none⟩) (ne_ob)).trans ((cs_other (p := ⟨pb0, po0 + 4, none⟩) (ne_ob)).trans (e20_1))
  have e21_2 : w9'.cell? ⟨pb0, po0 + 4 + 1, none⟩ = some (.string (showD qc)) := by rw [hZ2]; exact (cs_other (p := ⟨pb0, po0 + 4 + 1, none⟩) (ne_ob)).trans ((cs_other (p := ⟨pb0, po0 + 4 + 1, none⟩) (ne_ob)).trans (e21_1))
  have HW2 : Hid (Below w.heap.size w w9') := by rw [hZ2]; exact Lib.hid (zzw (zzw (HW1.out) (by omega)) (by omega))
  obtain ⟨w10', hZ3⟩ : ∃ Z9, Z9 = ((w9'.setCell ⟨(w.heap.size + 3), 0, none⟩ (.string (showN qc))).setCell ⟨(w.heap.size + 3), 1, none⟩ (.string (showD qc))) := ⟨_, rfl⟩
  have r3_m : Hid (RH w10' w.heap.size (mrA (n) r) 35) := by rw [hZ3]; exact Lib.hid (zzo (zzo (r2_m.out) (by omega)) (by omega))
  have r3_oa : Hid (RH w10' (w.heap.size + 1) #[.string (showN qa), .string (showD qa)] 24) := by rw [hZ3]; exact Lib.hid (zzo (zzo (r2_oa.out) (by omega)) (by omega))
  have r3_ob : Hid (RH w10' (w.heap.size + 2) #[.string (showN qb), .string (showD qb)] 24) := by rw [hZ3]; exact Lib.hid (zzo (zzo (r2_ob.out) (by omega)) (by omega))
  have r3_oc : Hid (RH w10' (w.heap.size + 3) #[.string (showN qc), .string (showD qc)] 24) := by rw [hZ3]; exact Lib.hid (((r2_oc.out).set 0 (.string (showN qc))).set 1 (.string (showD qc)))
  have e00_3 : w10'.cell? ⟨pb0, po0, none⟩ = some (.string (showN qa)) := by rw [hZ3]; exact (cs_other (p := ⟨pb0, po0, none⟩) (ne_oc)).trans ((cs_other (p := ⟨pb0, po0, none⟩) (ne_oc)).trans (e00_2))
  have e01_3 : w10'.cell? ⟨pb0, po0 + 1, none⟩ = some (.string (showD qa)) := by rw [hZ3]; exact (cs_other (p := ⟨pb0, po0 + 1, none⟩) (ne_oc)).trans ((cs_other (p := ⟨pb0, po0 + 1, none⟩) (ne_oc)).trans (e01_2))
  have e10_3 : w10'.cell? ⟨pb0, po0 + 2, none⟩ = some (.string (showN qb)) := by rw [hZ3]; exact (cs_other (p := ⟨pb0, po0 + 2, none⟩) (ne_oc)).trans ((cs_other (p := ⟨pb0, po0 + 2, none⟩) (ne_oc)).trans (e10_2))
  have e11_3 : w10'.cell? ⟨pb0, po0 + 2 + 1, none⟩ = some (.string (showD qb)) := by rw [hZ3]; exact (cs_other (p := ⟨pb0, po0 + 2 + 1, none⟩) (ne_oc)).trans ((cs_other (p := ⟨pb0, po0 + 2 + 1, none⟩) (ne_oc)).trans (e11_2))
  have e20_3 : w10'.cell? ⟨pb0, po0 + 4, none⟩ = some (.string (showN qc)) := by rw [hZ3]; exact (cs_other (p := ⟨pb0, po0 + 4, none⟩) (ne_oc)).trans ((cs_other (p := ⟨pb0, po0 + 4, none⟩) (ne_oc)).trans (e20_2))
  have e21_3 : w10'.cell? ⟨pb0, po0 + 4 + 1, none⟩ = some (.string (showD qc)) := by rw [hZ3]; exact (cs_other (p := ⟨pb0, po0 + 4 + 1, none⟩) (ne_oc)).trans ((cs_other (p := ⟨pb0, po0 + 4 + 1, none⟩) (ne_oc)).trans (e21_2))
  have HW3 : Hid (Below w.heap.size w w10') := by rw [hZ3]; exact Lib.hid (zzw (zzw (HW2.out) (by omega)) (by omega))
  have HCZ : ∀ k, k ≤ 3 → (fun w' : World => w'.cell? ⟨pb0, po0, none⟩ = some (.string (showN qa)) ∧ w'.cell? ⟨pb0, po0 + 1, none⟩ = some (.string (showD qa)) ∧ w'.cell? ⟨pb0, po0 + 2, none⟩ = some (.string (showN qb)) ∧ w'.cell? ⟨pb0, po0 + 2 + 1, none⟩ = some (.string (showD qb)) ∧ w'.cell? ⟨pb0, po0 + 4, none⟩ = some (.string (showN qc)) ∧ w'.cell? ⟨pb0, po0 + 4 + 1, none⟩ = some (.string (showD qc))) ([w7', w8', w9', w10'].getD k w6') := fun k hk => by
   match k, hk with
   | 0, _ => exact ⟨e00_0, e01_0, e10_0, e11_0, e20_0, e21_0⟩
   | 1, _ => exact ⟨e00_1, e01_1, e10_1, e11_1, e20_1, e21_1⟩
   | 2, _ => exact ⟨e00_2, e01_2, e10_2, e11_2, e20_2, e21_2⟩
   | 3, _ => exact ⟨e00_3, e01_3, e10_3, e11_3, e20_3, e21_3⟩
   | k + 4, h => omega
  clear e00_0 e00_1 e00_2 e00_3 e01_0 e01_1 e01_2 e01_3 e10_0 e10_1 e10_2 e10_3 e11_0 e11_1 e11_2 e11_3 e20_0 e20_1 e20_2 e20_3 e21_0 e21_1 e21_2 e21_3
  clear e00 e01 e10 e11 e20 e21
  have HZ0 := Lib.hid hZ0
  have HZ1 := Lib.hid hZ1
  have HZ2 := Lib.hid hZ2
  have HZ3 := Lib.hid hZ3
  clear hZ0 hZ1 hZ2 hZ3
  refine Grow.wp_region_stores 13 3 [w7', w8', w9', w10'] (fun w' => w'.cell? ⟨pb0, po0, none⟩ = some (.string (showN qa)) ∧ w'.cell? ⟨pb0, po0 + 1, none⟩ = some (.string (showD qa)) ∧ w'.cell? ⟨pb0, po0 + 2, none⟩ = some (.string (showN qb)) ∧ w'.cell? ⟨pb0, po0 + 2 + 1, none⟩ = some (.string (showD qb)) ∧ w'.cell? ⟨pb0, po0 + 4, none⟩ = some (.string (showN qc)) ∧ w'.cell? ⟨pb0, po0 + 4 + 1, none⟩ = some (.string (showD qc))) [fun v => v = .slice (some ⟨pb0, po0, none⟩) 3 pc, fun v => v = .pointer (some ⟨pb0, po0, none⟩), fun v => v = .agg #[.string (showN qa), .string (showD qa)], fun v => v = .slice (some ⟨pb0, po0, none⟩) 3 pc, fun v => v = .pointer (some ⟨pb0, po0 + 2, none⟩), fun v => v = .agg #[.string (showN qb), .string (showD qb)], fun v => v = .slice (some ⟨pb0, po0, none⟩) 3 pc, fun v => v = .pointer (some ⟨pb0, po0 + 4, none⟩), fun v => v = .agg #[.string (showN qc), .string (showD qc)], fun _ => True, fun _ => True, fun _ => True, fun v => v = .int .i64 0] [[], [0], [1], [], [3], [4], [], [6], [7], [2], [5], [8], []] [none, none, none, none, none, none, none, none, none, some 0, some 1, some 2, none] (by kernel_rfl) (by kernel_rfl) HZ0.out HCZ ⟨?s0g, ?s1g, ?s2g, ?s3g, ?s4g, ?s5g, ?s6g, ?s7g, ?s8g, ?s9g, ?s10g, ?s11g, ?s12g, trivial⟩ ?_
  all_goals clear HCZ
  case s0g =>
   intro w' hC 
   show wpList _ _ _ _ _ _
   go_wp2
   exact ⟨rfl, rfl, rfl⟩
  case s1g =>
   intro w' hC v1 hv1
   cases hv1
   show wpList _ _ _ _ _ _
   simp only [Grow.dstOf, zzp, Act.put]
   go_wp2
   exact ⟨rfl, rfl, rfl⟩
  case s2g =>
   intro w' hC v1 hv1
   cases hv1
   obtain ⟨e00, e01, -, -, -, -⟩ := hC
   show wpList _ _ _ _ _ _
   simp only [Grow.dstOf, zzp, Act.put]
   go_wp2
   exact ⟨rfl, rfl, rfl⟩
  case s3g =>
   intro w' hC 
   show wpList _ _ _ _ _ _
   go_wp2
   exact ⟨rfl, rfl, rfl⟩
  case s4g =>
   intro w' hC v1 hv1
   cases hv1
   show wpList _ _ _ _ _ _
   simp only [Grow.dstOf, zzp, Act.put]
   go_wp2
   exact ⟨rfl, rfl, rfl⟩
  case s5g =>
   intro w' hC v1 hv1
   cases hv1
   obtain ⟨-, -, e10, e11, -, -⟩ := hC
   show wpList _ _ _ _ _ _
   simp only [Grow.dstOf, zzp, Act.put]
   go_wp2
   exact ⟨rfl, rfl, rfl⟩
  case s6g =>
   intro w' hC 
   show wpList _ _ _ _ _ _
   go_wp2
   exact ⟨rfl, rfl, rfl⟩
  case s7g =>
   intro w' hC v1 hv1
   cases hv1
   show wpList _ _ _ _ _ _
   simp only [Grow.dstOf, zzp, Act.put]
   go_wp2
   exact ⟨rfl, rfl, rfl⟩
  case s8g =>
   intro w' hC v1 hv1
   cases hv1
   obtain ⟨-, -, -, -, e20, e21⟩ := hC
   show wpList _ _ _ _ _ _
   simp only [Grow.dstOf, zzp, Act.put]
   go_wp2
   exact ⟨rfl, rfl, rfl⟩
  case s9g =>
   intro v1 hv1
   cases hv1
   have g0 : w7'.cell? ⟨(w.heap.size + 1), 0, none⟩ = some (.string ⟨#[]⟩) := (r0_oa.out.cell 0).trans rfl
   have f0 := r0_oa.out.fre 0
   have g1 : w7'.cell? ⟨(w.heap.size + 1), 1, none⟩ = some (.string ⟨#[]⟩) := (r0_oa.out.cell 1).trans rfl
   have f1 := r0_oa.out.fre 1
   show wpList _ _ _ _ _ w7'
   simp only [Grow.dstOf, zzp, Act.put]
   go_wp2
   exact ⟨trivial, HZ1.out.symm, rfl⟩
  case s10g =>
   intro v1 hv1
   cases hv1
   have g0 : w8'.cell? ⟨(w.heap.size + 2), 0, none⟩ = some (.string ⟨#[]⟩) := (r1_ob.out.cell 0).trans rfl
   have f0 := r1_ob.out.fre 0
   have g1 : w8'.cell? ⟨(w.heap.size + 2), 1, none⟩ = some (.string ⟨#[]⟩) := (r1_ob.out.cell 1).trans rfl
   have f1 := r1_ob.out.fre 1
   show wpList _ _ _ _ _ w8'
   simp only [Grow.dstOf, zzp, Act.put]
   go_wp2
   exact ⟨trivial, HZ2.out.symm, rfl⟩
  case s11g =>
   intro v1 hv1
   cases hv1
   have g0 : w9'.cell? ⟨(w.heap.size + 3), 0, none⟩ = some (.string ⟨#[]⟩) := (r2_oc.out.cell 0).trans rfl
   have f0 := r2_oc.out.fre 0
   have g1 : w9'.cell? ⟨(w.heap.size + 3), 1, none⟩ = some (.string ⟨#[]⟩) := (r2_oc.out.cell 1).trans rfl
   have f1 := r2_oc.out.fre 1
   show wpList _ _ _ _ _ w9'
   simp only [Grow.dstOf, zzp, Act.put]
   go_wp2
   exact ⟨trivial, HZ3.out.symm, rfl⟩
  case s12g =>
   intro w' hC 
   show wpList _ _ _ _ _ _
   go_wp2
   exact ⟨rfl, rfl, rfl⟩
  intro u0 hu0 u1 hu1 u2 hu2 u3 hu3 u4 hu4 u5 hu5 u6 hu6 u7 hu7 u8 hu8 u9 hu9 u10 hu10 u11 hu11 u12 hu12
  obtain rfl : u12 = _ := hu12 rfl
  refine Grow.TailV.fin w10' rfl ?_
  simp only [Act.put, zzp]
  replace HW := HW3
  clear HW0 HW1 HW2 HW3
  replace HR_m := r3_m
  clear r0_m r1_m r2_m r3_m
  replace HR_oa := r3_oa
  clear r0_oa r1_oa r2_oa r3_oa
  replace HR_ob := r3_ob
  clear r0_ob r1_ob r2_ob r3_ob
  replace HR_oc := r3_oc
  clear r0_oc r1_oc r2_oc r3_oc
  clear hu0 hu1 hu2 hu3 hu4 hu5 hu6 hu7 hu8 hu9 hu10 hu11 HZ0 HZ1 HZ2 HZ3
  go_wp2
  obtain ⟨c_oa_0, c_oa_1⟩ := zs2 HR_oa.out
  obtain ⟨c_ob_0, c_ob_1⟩ := zs2 HR_ob.out
  obtain ⟨c_oc_0, c_oc_1⟩ := zs2 HR_oc.out
  exact bodyPost_ret (v := .tuple #[.agg #[.string (showN qa), .string (showD qa)], .agg #[.string (showN qb), .string (showD qb)], .agg #[.string (showN qc), .string (showD qc)], .int .i64 0]) (by simp [results, Tryz.results45, go_sem, c_oa_0, c_oa_1, c_ob_0, c_ob_1, c_oc_0, c_oc_1]) rfl ⟨by simp only [HZ.out, rtN_0, rtD_0, HE.out.1, HE.out.2.1, HE.out.2.2], HW.out⟩
 ·have hne2 : (atF 1 n r != 0) = true := by simp [hz]
  have HNE := Lib.hid hz
  clear hz
  go_upto_region 3 with (fail)
  clear HRD
  obtain ⟨w4', hZ0⟩ : ∃ Z9, Z9 = w3'.drew := ⟨_, rfl⟩
  have r0_m : Hid (RH w4' w.heap.size (mrA (n) r) 35) := by rw [hZ0]; exact HR_m
  have r0_oa : Hid (RH w4' (w.heap.size + 1) #[.string ⟨#[]⟩, .string ⟨#[]⟩] 24) := by rw [hZ0]; exact HR_oa
  have r0_ob : Hid (RH w4' (w.heap.size + 2) #[.string ⟨#[]⟩, .string ⟨#[]⟩] 24) := by rw [hZ0]; exact HR_ob
  have r0_oc : Hid (RH w4' (w.heap.size + 3) #[.string ⟨#[]⟩, .string ⟨#[]⟩] 24) := by rw [hZ0]; exact HR_oc
  have r0_s : Hid (RH w4' b_s (smA (k9) t9) 59) := by rw [hZ0]; exact HR_s
  have zoa0_0 : w4'.cell? ⟨(w.heap.size + 1), 0, none⟩ = some (.string ⟨#[]⟩) := (r0_oa.out.cell 0).trans rfl
  have zoa1_0 : w4'.cell? ⟨(w.heap.size + 1), 1, none⟩ = some (.string ⟨#[]⟩) := (r0_oa.out.cell 1).trans rfl
  have zob0_0 : w4'.cell? ⟨(w.heap.size + 2), 0, none⟩ = some (.string ⟨#[]⟩) := (r0_ob.out.cell 0).trans rfl
  have zob1_0 : w4'.cell? ⟨(w.heap.size + 2), 1, none⟩ = some (.string ⟨#[]⟩) := (r0_ob.out.cell 1).trans rfl
  have zoc0_0 : w4'.cell? ⟨(w.heap.size + 3), 0, none⟩ = some (.string ⟨#[]⟩) := (r0_oc.out.cell 0).trans rfl
  have zoc1_0 : w4'.cell? ⟨(w.heap.size + 3), 1, none⟩ = some (.string ⟨#[]⟩) := (r0_oc.out.cell 1).trans rfl
  have HW0 : Hid (Below w.heap.size w w4') := by rw [hZ0]; have h9 := HW.out; exact Lib.hid ⟨h9.1, h9.2, h9.3, h9.4, h9.5⟩
  obtain ⟨w5', hZ1⟩ : ∃ Z9, Z9 = ((w4'.setCell ⟨(w.heap.size + 1), 0, none⟩ (.string ⟨#[]⟩)).setCell ⟨(w.heap.size + 1), 1, none⟩ (.string ⟨#[]⟩)) := ⟨_, rfl⟩
  have r1_m : Hid (RH w5' w.heap.size (mrA (n) r) 35) := by rw [hZ1]; exact Lib.hid (zzo (zzo (r0_m.out) (by omega)) (by omega))
  have r1_oa : Hid (RH w5' (w.heap.size + 1) #[.string ⟨#[]⟩, .string ⟨#[]⟩] 24) := by rw [hZ1]; exact Lib.hid (((r0_oa.out).set 0 (.string ⟨#[]⟩)).set 1 (.string ⟨#[]⟩))
  have r1_ob : Hid (RH w5' (w.heap.size + 2) #[.string ⟨#[]⟩, .string ⟨#[]⟩] 24) := by rw [hZ1]; exact Lib.hid (zzo (zzo (r0_ob.out) (by omega)) (by omega))
  have r1_oc : Hid (RH w5' (w.heap.size + 3) #[.string ⟨#[]⟩, .string ⟨#[]⟩] 24) := by rw [hZ1]; exact Lib.hid (zzo (zzo (r0_oc.out) (by omega)) (by omega))
  have r1_s : Hid (RH w5' b_s (smA (k9) t9) 59) := by rw [hZ1]; exact Lib.hid (zzo (zzo (r0_s.out) (by omega)) (by omega))
  have zoa0_1 : w5'.cell? ⟨(w.heap.size + 1), 0, none⟩ = some (.string ⟨#[]⟩) := (r1_oa.out.cell 0).trans rfl
  have zoa1_1 : w5'.cell? ⟨(w.heap.size + 1), 1, none⟩ = some (.string ⟨#[]⟩) := (r1_oa.out.cell 1).trans rfl
  have zob0_1 : w5'.cell? ⟨(w.heap.size + 2), 0, none⟩ = some (.string ⟨#[]⟩) := (r1_ob.out.cell 0).trans rfl
  have zob1_1 : w5'.cell? ⟨(w.heap.size + 2), 1, none⟩ = some (.string ⟨#[]⟩) := (r1_ob.out.cell 1).trans rfl
  have zoc0_1 : w5'.cell? ⟨(w.heap.size + 3), 0, none⟩ = some (.string ⟨#[]⟩) := (r1_oc.out.cell 0).trans rfl
  have zoc1_1 : w5'.cell? ⟨(w.heap.size + 3), 1, none⟩ = some (.string ⟨#[]⟩) := (r1_oc.out.cell 1).trans rfl
  have HW1 : Hid (Below w.heap.size w w5') := by rw [hZ1]; exact Lib.hid (zzw (zzw (HW0.out) (by omega)) (by omega))
  obtain ⟨w6', hZ2⟩ : ∃ Z9, Z9 = ((w5'.setCell ⟨(w.heap.size + 2), 0, none⟩ (.string ⟨#[]⟩)).setCell ⟨(w.heap.size + 2), 1, none⟩ (.string ⟨#[]⟩)) := ⟨_, rfl⟩
  have r2_m : Hid (RH w6' w.heap.size (mrA (n) r) 35) := by rw [hZ2]; exact Lib.hid (zzo (zzo (r1_m.out) (by omega)) (by omega))
  have r2_oa : Hid (RH w6' (w.heap.size + 1) #[.string ⟨#[]⟩, .string ⟨#[]⟩] 24) := by rw [hZ2]; exact Lib.hid (zzo (zzo (r1_oa.out) (by omega)) (by omega))
  have r2_ob : Hid (RH w6' (w.heap.size + 2) #[.string ⟨#[]⟩, .string ⟨#[]⟩] 24) := by rw [hZ2]; exact Lib.hid (((r1_ob.out).set 0 (.string ⟨#[]⟩)).set 1 (.string ⟨#[]⟩))
  have r2_oc : Hid (RH w6' (w.heap.size + 3) #[.string ⟨#[]⟩, .string ⟨#[]⟩] 24) := by rw [hZ2]; exact Lib.hid (zzo (zzo (r1_oc.out) (by omega)) (by omega))
  have r2_s : Hid (RH w6' b_s (smA (k9) t9) 59) := by rw [hZ2]; exact Lib.hid (zzo (zzo (r1_s.out) (by omega)) (by omega))
  have zoa0_2 : w6'.cell? ⟨(w.heap.size + 1), 0, none⟩ = some (.string ⟨#[]⟩) := (r2_oa.out.cell 0).trans rfl
  have zoa1_2 : w6'.cell? ⟨(w.heap.size + 1), 1, none⟩ = some (.string ⟨#[]⟩) := (r2_oa.out.cell 1).trans rfl
  have zob0_2 : w6'.cell? ⟨(w.heap.size + 2), 0, none⟩ = some (.string ⟨#[]⟩) := (r2_ob.out.cell 0).trans rfl
  have zob1_2 : w6'.cell? ⟨(w.heap.size + 2), 1, none⟩ = some (.string ⟨#[]⟩) := (r2_ob.out.cell 1).trans rfl
  have zoc0_2 : w6'.cell? ⟨(w.heap.size + 3), 0, none⟩ = some (.string ⟨#[]⟩) := (r2_oc.out.cell 0).trans rfl
  have zoc1_2 : w6'.cell? ⟨(w.heap.size + 3), 1, none⟩ = some (.string ⟨#[]⟩) := (r2_oc.out.cell 1).trans rfl
  have HW2 : Hid (Below w.heap.size w w6') := by rw [hZ2]; exact Lib.hid (zzw (zzw (HW1.out) (by omega)) (by omega))
  obtain ⟨w7', hZ3⟩ : ∃ Z9, Z9 = ((w6'.setCell ⟨(w.heap.size + 3), 0, none⟩ (.string ⟨#[]⟩)).setCell ⟨(w.heap.size + 3), 1, none⟩ (.string ⟨#[]⟩)) := ⟨_, rfl⟩
  have r3_m : Hid (RH w7' w.heap.size (mrA (n) r) 35) := by rw [hZ3]; exact Lib.hid (zzo (zzo (r2_m.out) (by omega)) (by omega))
  have r3_oa : Hid (RH w7' (w.heap.size + 1) #[.string ⟨#[]⟩, .string ⟨#[]⟩] 24) := by rw [hZ3]; exact Lib.hid (zzo (zzo (r2_oa.out) (by omega)) (by omega))
  have r3_ob : Hid (RH w7' (w.heap.size + 2) #[.string ⟨#[]⟩, .string ⟨#[]⟩] 24) := by rw [hZ3]; exact Lib.hid (zzo (zzo (r2_ob.out) (by omega)) (by omega))
  have r3_oc : Hid (RH w7' (w.heap.size + 3) #[.string ⟨#[]⟩, .string ⟨#[]⟩] 24) := by rw [hZ3]; exact Lib.hid (((r2_oc.out).set 0 (.string ⟨#[]⟩)).set 1 (.string ⟨#[]⟩))
  have r3_s : Hid (RH w7' b_s (smA (k9) t9) 59) := by rw [hZ3]; exact Lib.hid (zzo (zzo (r2_s.out) (by omega)) (by omega))
  have zoa0_3 : w7'.cell? ⟨(w.heap.size + 1), 0, none⟩ = some (.string ⟨#[]⟩) := (r3_oa.out.cell 0).trans rfl
  have zoa1_3 : w7'.cell? ⟨(w.heap.size + 1), 1, none⟩ = some (.string ⟨#[]⟩) := (r3_oa.out.cell 1).trans rfl
  have zob0_3 : w7'.cell? ⟨(w.heap.size + 2), 0, none⟩ = some (.string ⟨#[]⟩) := (r3_ob.out.cell 0).trans rfl
  have zob1_3 : w7'.cell? ⟨(w.heap.size + 2), 1, none⟩ = some (.string ⟨#[]⟩) := (r3_ob.out.cell 1).trans rfl
  have zoc0_3 : w7'.cell? ⟨(w.heap.size + 3), 0, none⟩ = some (.string ⟨#[]⟩) := (r3_oc.out.cell 0).trans rfl
  have zoc1_3 : w7'.cell? ⟨(w.heap.size + 3), 1, none⟩ = some (.string ⟨#[]⟩) := (r3_oc.out.cell 1).trans rfl
  have HW3 : Hid (Below w.heap.size w w7') := by rw [hZ3]; exact Lib.hid (zzw (zzw (HW2.out) (by omega)) (by omega))
  have HCZ : ∀ k, k ≤ 3 → (fun w' : World => w'.cell? ⟨(w.heap.size + 1), 0, none⟩ = some (.string ⟨#[]⟩) ∧ w'.cell? ⟨(w.heap.size + 1), 1, none⟩ = some (.string ⟨#[]⟩) ∧ w'.cell? ⟨(w.heap.size + 2), 0, none⟩ = some (.string ⟨#[]⟩) ∧ w'.cell? ⟨(w.heap.size + 2), 1, none⟩ = some (.string ⟨#[]⟩) ∧ w'.cell? ⟨(w.heap.size + 3), 0, none⟩ = some (.string ⟨#[]⟩) ∧ w'.cell? ⟨(w.heap.size + 3), 1, none⟩ = some (.string ⟨#[]⟩)) ([w4', w5', w6', w7'].getD k w3') := fun k hk => by
   match k, hk with
   | 0, _ => exact ⟨zoa0_0, zoa1_0, zob0_0, zob1_0, zoc0_0, zoc1_0⟩
   | 1, _ => exact ⟨zoa0_1, zoa1_1, zob0_1, zob1_1, zoc0_1, zoc1_1⟩
   | 2, _ => exact ⟨zoa0_2, zoa1_2, zob0_2, zob1_2, zoc0_2, zoc1_2⟩
   | 3, _ => exact ⟨zoa0_3, zoa1_3, zob0_3, zob1_3, zoc0_3, zoc1_3⟩
   | k + 4, h => omega
  clear zoa0_0 zoa0_1 zoa0_2 zoa0_3 zoa1_0 zoa1_1 zoa1_2 zoa1_3 zob0_0 zob0_1 zob0_2 zob0_3 zob1_0 zob1_1 zob1_2 zob1_3 zoc0_0 zoc0_1 zoc0_2 zoc0_3 zoc1_0 zoc1_1 zoc1_2 zoc1_3
  have HZ0 := Lib.hid hZ0
  have HZ1 := Lib.hid hZ1
  have HZ2 := Lib.hid hZ2
  have HZ3 := Lib.hid hZ3
  clear hZ0 hZ1 hZ2 hZ3
  refine Grow.wp_region_stores 8 3 [w4', w5', w6', w7'] (fun w' => w'.cell? ⟨(w.heap.size + 1), 0, none⟩ = some (.string ⟨#[]⟩) ∧ w'.cell? ⟨(w.heap.size + 1), 1, none⟩ = some (.string ⟨#[]⟩) ∧ w'.cell? ⟨(w.heap.size + 2), 0, none⟩ = some (.string ⟨#[]⟩) ∧ w'.cell? ⟨(w.heap.size + 2), 1, none⟩ = some (.string ⟨#[]⟩) ∧ w'.cell? ⟨(w.heap.size + 3), 0, none⟩ = some (.string ⟨#[]⟩) ∧ w'.cell? ⟨(w.heap.size + 3), 1, none⟩ = some (.string ⟨#[]⟩)) [fun v => v = .agg #[.string ⟨#[]⟩, .string ⟨#[]⟩], fun v => v = .agg #[.string ⟨#[]⟩, .string ⟨#[]⟩], fun v => v = .agg #[.string ⟨#[]⟩, .string ⟨#[]⟩], fun v => v = .int .i64 (atF 1 n r), fun _ => True, fun _ => True, fun _ => True, fun v => v = .int .i64 (atF 1 n r)] [[], [], [], [], [0], [1], [2], [3]] [none, none, none, none, some 0, some 1, some 2, none] (by kernel_rfl) (by kernel_rfl) HZ0.out HCZ ⟨?s0f, ?s1f, ?s2f, ?s3f, ?s4f, ?s5f, ?s6f, ?s7f, trivial⟩ ?_
  all_goals clear HCZ
  case s0f =>
   intro w' hC 
   obtain ⟨zoa0, zoa1, -, -, -, -⟩ := hC
   show wpList _ _ _ _ _ _
   go_wp2
   exact ⟨rfl, rfl, rfl⟩
  case s1f =>
   intro w' hC 
   obtain ⟨-, -, zob0, zob1, -, -⟩ := hC
   show wpList _ _ _ _ _ _
   go_wp2
   exact ⟨rfl, rfl, rfl⟩
  case s2f =>
   intro w' hC 
   obtain ⟨-, -, -, -, zoc0, zoc1⟩ := hC
   show wpList _ _ _ _ _ _
   go_wp2
   exact ⟨rfl, rfl, rfl⟩
  case s3f =>
   intro w' hC 
   show wpList _ _ _ _ _ _
   go_wp2
   exact ⟨rfl, rfl, rfl⟩
  case s4f =>
   intro v1 hv1
   cases hv1
   have g0 : w4'.cell? ⟨(w.heap.size + 1), 0, none⟩ = some (.string ⟨#[]⟩) := (r0_oa.out.cell 0).trans rfl
   have f0 := r0_oa.out.fre 0
   have g1 : w4'.cell? ⟨(w.heap.size + 1), 1, none⟩ = some (.string ⟨#[]⟩) := (r0_oa.out.cell 1).trans rfl
   have f1 := r0_oa.out.fre 1
   show wpList _ _ _ _ _ w4'
   simp only [Grow.dstOf, zzp, Act.put]
   go_wp2
   exact ⟨trivial, HZ1.out.symm, rfl⟩
  case s5f =>
   intro v1 hv1
   cases hv1
   have g0 : w5'.cell? ⟨(w.heap.size + 2), 0, none⟩ = some (.string ⟨#[]⟩) := (r1_ob.out.cell 0).trans rfl
   have f0 := r1_ob.out.fre 0
   have g1 : w5'.cell? ⟨(w.heap.size + 2), 1, none⟩ = some (.string ⟨#[]⟩) := (r1_ob.out.cell 1).trans rfl
   have f1 := r1_ob.out.fre 1
   show wpList _ _ _ _ _ w5'
   simp only [Grow.dstOf, zzp, Act.put]
   go_wp2
   exact ⟨trivial, HZ2.out.symm, rfl⟩
  case s6f =>
   intro v1 hv1
   cases hv1
   have g0 : w6'.cell? ⟨(w.heap.size + 3), 0, none⟩ = some (.string ⟨#[]⟩) := (r2_oc.out.cell 0).trans rfl
   have f0 := r2_oc.out.fre 0
   have g1 : w6'.cell? ⟨(w.heap.size + 3), 1, none⟩ = some (.string ⟨#[]⟩) := (r2_oc.out.cell 1).trans rfl
   have f1 := r2_oc.out.fre 1
   show wpList _ _ _ _ _ w6'
   simp only [Grow.dstOf, zzp, Act.put]
   go_wp2
   exact ⟨trivial, HZ3.out.symm, rfl⟩
  case s7f =>
   intro w' hC v1 hv1
   cases hv1
   show wpList _ _ _ _ _ _
   simp only [Grow.dstOf, zzp, Act.put]
   go_wp2
   exact ⟨rfl, rfl, rfl⟩
  intro u0 hu0 u1 hu1 u2 hu2 u3 hu3 u4 hu4 u5 hu5 u6 hu6 u7 hu7
  obtain rfl : u7 = _ := hu7 rfl
  refine Grow.TailV.fin w7' rfl ?_
  simp only [Act.put, zzp]
  replace HW := HW3
  clear HW0 HW1 HW2 HW3
  replace HR_m := r3_m
  clear r0_m r1_m r2_m r3_m
  replace HR_oa := r3_oa
  clear r0_oa r1_oa r2_oa r3_oa
  replace HR_ob := r3_ob
  clear r0_ob r1_ob r2_ob r3_ob
  replace HR_oc := r3_oc
  clear r0_oc r1_oc r2_oc r3_oc
  replace HR_s := r3_s
  clear r0_s r1_s r2_s r3_s
  clear hu0 hu1 hu2 hu3 hu4 hu5 hu6 HZ0 HZ1 HZ2 HZ3
  go_wp2
  obtain ⟨c_oa_0, c_oa_1⟩ := zs2 HR_oa.out
  obtain ⟨c_ob_0, c_ob_1⟩ := zs2 HR_ob.out
  obtain ⟨c_oc_0, c_oc_1⟩ := zs2 HR_oc.out
  exact bodyPost_ret (v := .tuple #[.agg #[.string ⟨#[]⟩, .string ⟨#[]⟩], .agg #[.string ⟨#[]⟩, .string ⟨#[]⟩], .agg #[.string ⟨#[]⟩, .string ⟨#[]⟩], .int .i64 (atF 1 n r)]) (by simp [results, Tryz.results45, go_sem, c_oa_0, c_oa_1, c_ob_0, c_ob_1, c_oc_0, c_oc_1]) rfl ⟨by simp only [rtN_no HNE.out, rtD_no HNE.out], HW.out⟩
end Nm
end Go.Proofs.YtlbnjgnbpiidaaaGreatDoor
