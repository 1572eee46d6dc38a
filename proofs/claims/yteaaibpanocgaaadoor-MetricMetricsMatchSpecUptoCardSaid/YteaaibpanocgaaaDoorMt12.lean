/- read of the reference. Printed by gen_mtr.py. -/
import Derived.Test.YteaaibpanocgaaaDoorMt00
import Derived.Test.YteaaibpanocgaaaDoorMt11
import Derived.Test.YteaaibpanocgaaaDoorMt01
import Derived.Test.YteaaibpanocgaaaDoorMt03
import Derived.Test.YteaaibpanocgaaaDoorProg
import Derived.Test.YteaaibpanocgaaaDoorMt04
import Derived.Test.YteaaibpanocgaaaDoorMt05
import Derived.Test.YteaaibpanocgaaaDoorMt06
namespace Go.Proofs.YteaaibpanocgaaaDoor
open Go.RowKit
namespace Tx
open _root_.Go.Proofs.YteaaibpanocgaaaDoor.Nm
open _root_.Go.Proofs.YteaaibpanocgaaaDoor.Nt (RH RH.cell RH.box RH.lt RH.new RH.ext RH.fre RH.set RH.other)
set_option maxRecDepth 100000 in
set_option maxHeartbeats 16000000 in
theorem ref8read_at (s : ByteArray) (hs : s.size ≤ 1048576) (w : World) (hm : Ml w) : Calls Tryd.prog 25 #[.string s] w (RdM s.data.toList w) := by
 have Hhs0 := Lib.hid hs
 have Hhm0 := Lib.hid hm
 clear hs hm
 go_enter Tryd.func25, Tryd.ntmps25
 go_upto_region 1 with (fail)
 refine wp_vr1 fun w1' hbz hR0 => ?_
 have HR_o : Hid (RH w1' w.heap.size #[.string ⟨#[]⟩, .int .i64 0, .string ⟨#[]⟩, .int .i64 0, .int .i64 0, .int .i64 0] 24) := Lib.hid hR0
 have HW := Lib.hid hbz
 clear hbz hR0
 go_wp2_with fail
 refine (split_at s 32 (by have := Hhs0.out; omega) w1' (Hhm0.out.ext HW.out)).mono ?_
 rintro e w2' ⟨ap, cp, rfl, hsl, hbz⟩
 obtain ⟨P, hP⟩ : ∃ P, (cutL 32 s.data.toList).map stB = P := ⟨_, rfl⟩
 rw [hP] at hsl ⊢
 have HSL : Hid (SlS w2' ap P cp) := Lib.hid hsl
 clear hsl
 replace HR_o := Lib.hid (HR_o.out.ext hbz)
 replace HW := Lib.hid (ext_trans HW.out hbz)
 clear hbz
 have HPZ : Hid (∀ u ∈ P, u.size ≤ 1048576) := Lib.hid (by
  rw [← hP]
  intro u hu
  obtain ⟨x, hx, rfl⟩ := List.mem_map.1 hu
  have h9 := cutL_len x hx
  have h8 := Hhs0.out
  have h7 : s.data.toList.length = s.size := Array.length_toList
  rw [stB_size]; omega)
 have HRD : Hid (readM s.data.toList = readMW (P.map (·.data.toList))) := Lib.hid (by rw [← hP, List.map_map]; show readMW (cutL 32 s.data.toList) = _; congr 1; exact (List.map_id _).symm)
 clear hP
 obtain ⟨n, hn⟩ : ∃ z, P.length = z := ⟨_, rfl⟩
 rw [hn]
 by_cases h6 : n = 6
 ·subst h6
  obtain ⟨a, k, c, x, y, z, rfl⟩ : ∃ a k c x y z, P = [a, k, c, x, y, z] := by
   match P, hn with
   | [a, k, c, x, y, z], _ => exact ⟨a, k, c, x, y, z, rfl⟩
  clear hn
  obtain ⟨pb, po, rfl, hpc⟩ := SlS.pcs HSL.out (by simp)
  have HP : Hid (Pcs w2' pb po [a, k, c, x, y, z]) := Lib.hid hpc
  have npo : pb ≠ w.heap.size := Pcs.neM hpc (by simp) HR_o.out.box
  clear hpc HSL
  have HZa : Hid (a.size ≤ 1048576) := Lib.hid (HPZ.out a (by simp))
  have HZk : Hid (k.size ≤ 1048576) := Lib.hid (HPZ.out k (by simp))
  have HZc : Hid (c.size ≤ 1048576) := Lib.hid (HPZ.out c (by simp))
  have HZx : Hid (x.size ≤ 1048576) := Lib.hid (HPZ.out x (by simp))
  have HZy : Hid (y.size ≤ 1048576) := Lib.hid (HPZ.out y (by simp))
  have HZz : Hid (z.size ≤ 1048576) := Lib.hid (HPZ.out z (by simp))
  clear HPZ
  have HRD' : Hid (readM s.data.toList = readM6 a.data.toList k.data.toList c.data.toList x.data.toList y.data.toList z.data.toList) := HRD
  clear HRD
  have e_0 : w2'.cell? ⟨pb, po, none⟩ = some (.string a) := HP.out 0 (by simp)
  have e_2 : w2'.cell? ⟨pb, po + 2, none⟩ = some (.string c) := HP.out 2 (by simp)
  obtain ⟨wa, hwa⟩ : ∃ z, wordsB a.data.toList = z := ⟨_, rfl⟩
  have HWa := Lib.hid hwa
  have HXa := Lib.hid (fun W9 => (by have h9 := ref4_IsRow a (Nat.le_trans HZa.out (by decide)) W9; rw [hwa] at h9; exact h9 : Calls Tryd.prog 37 #[.string a] W9 fun e w' => e = .returned (.bool wa) ∧ W9 = w'))
  clear hwa
  obtain ⟨we, hwe⟩ : ∃ z, wordsB c.data.toList = z := ⟨_, rfl⟩
  have HWe := Lib.hid hwe
  have HXe := Lib.hid (fun W9 => (by have h9 := ref4_IsRow c (Nat.le_trans HZc.out (by decide)) W9; rw [hwe] at h9; exact h9 : Calls Tryd.prog 37 #[.string c] W9 fun e w' => e = .returned (.bool we) ∧ W9 = w'))
  clear hwe
  go_wp2_with fail
  refine (HXa.out _).mono ?_
  rintro e w9 ⟨rfl, hw9⟩
  subst hw9
  clear HXa
  cases wa
  ·have HN : Hid (readM s.data.toList = none) := Lib.hid (HRD'.out.trans (readM6_no (.inl HWa.out)))
   have c_o_0 : w2'.cell? ⟨w.heap.size, 0, none⟩ = some (.string ⟨#[]⟩) := (HR_o.out.cell 0).trans rfl
   have c_o_1 : w2'.cell? ⟨w.heap.size, 1, none⟩ = some (.int .i64 0) := (HR_o.out.cell 1).trans rfl
   have c_o_2 : w2'.cell? ⟨w.heap.size, 2, none⟩ = some (.string ⟨#[]⟩) := (HR_o.out.cell 2).trans rfl
   have c_o_3 : w2'.cell? ⟨w.heap.size, 3, none⟩ = some (.int .i64 0) := (HR_o.out.cell 3).trans rfl
   have c_o_4 : w2'.cell? ⟨w.heap.size, 4, none⟩ = some (.int .i64 0) := (HR_o.out.cell 4).trans rfl
   have c_o_5 : w2'.cell? ⟨w.heap.size, 5, none⟩ = some (.int .i64 0) := (HR_o.out.cell 5).trans rfl
   have f_o_0 := HR_o.out.fre 0
   have f_o_1 := HR_o.out.fre 1
   have f_o_2 := HR_o.out.fre 2
   have f_o_3 := HR_o.out.fre 3
   have f_o_4 := HR_o.out.fre 4
   have f_o_5 := HR_o.out.fre 5
   go_wp2
   obtain ⟨w3', hX⟩ : ∃ Z9, Z9 = ((((((w2'.setCell ⟨w.heap.size, 0, none⟩ (.string ⟨#[]⟩)).setCell ⟨w.heap.size, 1, none⟩ (.int .i64 0)).setCell ⟨w.heap.size, 2, none⟩ (.string ⟨#[]⟩)).setCell ⟨w.heap.size, 3, none⟩ (.int .i64 0)).setCell ⟨w.heap.size, 4, none⟩ (.int .i64 0)).setCell ⟨w.heap.size, 5, none⟩ (.int .i64 0)) := ⟨_, rfl⟩
   rw [← hX]
   have n_o : Hid (RH w3' w.heap.size #[.string ⟨#[]⟩, .int .i64 0, .string ⟨#[]⟩, .int .i64 0, .int .i64 0, .int .i64 0] 24) := by rw [hX]; exact Lib.hid (((((((HR_o.out).set 0 (.string ⟨#[]⟩)).set 1 (.int .i64 0)).set 2 (.string ⟨#[]⟩)).set 3 (.int .i64 0)).set 4 (.int .i64 0)).set 5 (.int .i64 0))
   have HK_ : ∀ p : Addr, p.block ≠ w.heap.size → w3'.cell? p = w2'.cell? p := fun p hp => by rw [hX]; exact (cs_vr hp).trans ((cs_vr hp).trans ((cs_vr hp).trans ((cs_vr hp).trans ((cs_vr hp).trans (cs_vr hp)))))
   have n_HP : Hid (Pcs w3' pb po [a, k, c, x, y, z]) := Lib.hid (HP.out.far HR_o.out.box (show pb ≠ w.heap.size by omega) HK_)
   have nW : Hid (Below w.heap.size w w3') := by rw [hX]; exact Lib.hid (zzw (zzw (zzw (zzw (zzw (zzw (HW.out) (by omega)) (by omega)) (by omega)) (by omega)) (by omega)) (by omega))
   clear e_0 e_2 c_o_0 c_o_1 c_o_2 c_o_3 c_o_4 c_o_5 f_o_0 f_o_1 f_o_2 f_o_3 f_o_4 f_o_5
   clear hX HK_ HW HR_o HP
   have HR_o := n_o; clear n_o
   have HP := n_HP; clear n_HP
   have HW := nW; clear nW
   have c_o_0 : w3'.cell? ⟨w.heap.size, 0, none⟩ = some (.string ⟨#[]⟩) := (HR_o.out.cell 0).trans rfl
   have c_o_1 : w3'.cell? ⟨w.heap.size, 1, none⟩ = some (.int .i64 0) := (HR_o.out.cell 1).trans rfl
   have c_o_2 : w3'.cell? ⟨w.heap.size, 2, none⟩ = some (.string ⟨#[]⟩) := (HR_o.out.cell 2).trans rfl
   have c_o_3 : w3'.cell? ⟨w.heap.size, 3, none⟩ = some (.int .i64 0) := (HR_o.out.cell 3).trans rfl
   have c_o_4 : w3'.cell? ⟨w.heap.size, 4, none⟩ = some (.int .i64 0) := (HR_o.out.cell 4).trans rfl
   have c_o_5 : w3'.cell? ⟨w.heap.size, 5, none⟩ = some (.int .i64 0) := (HR_o.out.cell 5).trans rfl
   exact bodyPost_ret (v := .tuple #[.agg #[.string ⟨#[]⟩, .int .i64 0, .string ⟨#[]⟩, .int .i64 0, .int .i64 0, .int .i64 0], .bool false]) (by simp [results, Tryd.results25, go_sem, c_o_0, c_o_1, c_o_2, c_o_3, c_o_4, c_o_5]) rfl ⟨⟨⟨#[]⟩, 0, ⟨#[]⟩, 0, 0, 0⟩, _, rfl, ⟨zleM, zleM⟩, .inr ⟨HN.out, rfl⟩, HW.out⟩
  ·go_wp2_with fail
   refine (HXe.out _).mono ?_
   rintro e w9 ⟨rfl, hw9⟩
   subst hw9
   clear HXe
   cases we
   ·have HN : Hid (readM s.data.toList = none) := Lib.hid (HRD'.out.trans (readM6_no (.inr (.inl HWe.out))))
    have c_o_0 : w2'.cell? ⟨w.heap.size, 0, none⟩ = some (.string ⟨#[]⟩) := (HR_o.out.cell 0).trans rfl
    have c_o_1 : w2'.cell? ⟨w.heap.size, 1, none⟩ = some (.int .i64 0) := (HR_o.out.cell 1).trans rfl
    have c_o_2 : w2'.cell? ⟨w.heap.size, 2, none⟩ = some (.string ⟨#[]⟩) := (HR_o.out.cell 2).trans rfl
    have c_o_3 : w2'.cell? ⟨w.heap.size, 3, none⟩ = some (.int .i64 0) := (HR_o.out.cell 3).trans rfl
    have c_o_4 : w2'.cell? ⟨w.heap.size, 4, none⟩ = some (.int .i64 0) := (HR_o.out.cell 4).trans rfl
    have c_o_5 : w2'.cell? ⟨w.heap.size, 5, none⟩ = some (.int .i64 0) := (HR_o.out.cell 5).trans rfl
    have f_o_0 := HR_o.out.fre 0
    have f_o_1 := HR_o.out.fre 1
    have f_o_2 := HR_o.out.fre 2
    have f_o_3 := HR_o.out.fre 3
    have f_o_4 := HR_o.out.fre 4
    have f_o_5 := HR_o.out.fre 5
    go_wp2
    obtain ⟨w3', hX⟩ : ∃ Z9, Z9 = ((((((w2'.setCell ⟨w.heap.size, 0, none⟩ (.string ⟨#[]⟩)).setCell ⟨w.heap.size, 1, none⟩ (.int .i64 0)).setCell ⟨w.heap.size, 2, none⟩ (.string ⟨#[]⟩)).setCell ⟨w.heap.size, 3, none⟩ (.int .i64 0)).setCell ⟨w.heap.size, 4, none⟩ (.int .i64 0)).setCell ⟨w.heap.size, 5, none⟩ (.int .i64 0)) := ⟨_, rfl⟩
    rw [← hX]
    have n_o : Hid (RH w3' w.heap.size #[.string ⟨#[]⟩, .int .i64 0, .string ⟨#[]⟩, .int .i64 0, .int .i64 0, .int .i64 0] 24) := by rw [hX]; exact Lib.hid (((((((HR_o.out).set 0 (.string ⟨#[]⟩)).set 1 (.int .i64 0)).set 2 (.string ⟨#[]⟩)).set 3 (.int .i64 0)).set 4 (.int .i64 0)).set 5 (.int .i64 0))
    have HK_ : ∀ p : Addr, p.block ≠ w.heap.size → w3'.cell? p = w2'.cell? p := fun p hp => by rw [hX]; exact (cs_vr hp).trans ((cs_vr hp).trans ((cs_vr hp).trans ((cs_vr hp).trans ((cs_vr hp).trans (cs_vr hp)))))
    have n_HP : Hid (Pcs w3' pb po [a, k, c, x, y, z]) := Lib.hid (HP.out.far HR_o.out.box (show pb ≠ w.heap.size by omega) HK_)
    have nW : Hid (Below w.heap.size w w3') := by rw [hX]; exact Lib.hid (zzw (zzw (zzw (zzw (zzw (zzw (HW.out) (by omega)) (by omega)) (by omega)) (by omega)) (by omega)) (by omega))
    clear e_0 e_2 c_o_0 c_o_1 c_o_2 c_o_3 c_o_4 c_o_5 f_o_0 f_o_1 f_o_2 f_o_3 f_o_4 f_o_5
    clear hX HK_ HW HR_o HP
    have HR_o := n_o; clear n_o
    have HP := n_HP; clear n_HP
    have HW := nW; clear nW
    have c_o_0 : w3'.cell? ⟨w.heap.size, 0, none⟩ = some (.string ⟨#[]⟩) := (HR_o.out.cell 0).trans rfl
    have c_o_1 : w3'.cell? ⟨w.heap.size, 1, none⟩ = some (.int .i64 0) := (HR_o.out.cell 1).trans rfl
    have c_o_2 : w3'.cell? ⟨w.heap.size, 2, none⟩ = some (.string ⟨#[]⟩) := (HR_o.out.cell 2).trans rfl
    have c_o_3 : w3'.cell? ⟨w.heap.size, 3, none⟩ = some (.int .i64 0) := (HR_o.out.cell 3).trans rfl
    have c_o_4 : w3'.cell? ⟨w.heap.size, 4, none⟩ = some (.int .i64 0) := (HR_o.out.cell 4).trans rfl
    have c_o_5 : w3'.cell? ⟨w.heap.size, 5, none⟩ = some (.int .i64 0) := (HR_o.out.cell 5).trans rfl
    exact bodyPost_ret (v := .tuple #[.agg #[.string ⟨#[]⟩, .int .i64 0, .string ⟨#[]⟩, .int .i64 0, .int .i64 0, .int .i64 0], .bool false]) (by simp [results, Tryd.results25, go_sem, c_o_0, c_o_1, c_o_2, c_o_3, c_o_4, c_o_5]) rfl ⟨⟨⟨#[]⟩, 0, ⟨#[]⟩, 0, 0, 0⟩, _, rfl, ⟨zleM, zleM⟩, .inr ⟨HN.out, rfl⟩, HW.out⟩
   ·clear e_0 e_2
    obtain ⟨ki, hki⟩ : ∃ z, kindI k.data.toList = z := ⟨_, rfl⟩
    have HKI := Lib.hid hki
    have HIX := Lib.hid (fun v9 W9 q9 => (by have h9 := slIndex_at v9 k W9 q9; rw [hki] at h9; exact h9 : Calls Tryd.prog 36 #[v9, .string k] W9 fun e w' => e = .returned (.int .i64 ki) ∧ W9 = w'))
    clear hki
    have e_0 : w2'.cell? ⟨pb, po, none⟩ = some (.string a) := HP.out 0 (by simp)
    have e_1 : w2'.cell? ⟨pb, po + 1, none⟩ = some (.string k) := HP.out 1 (by simp)
    have e_2 : w2'.cell? ⟨pb, po + 2, none⟩ = some (.string c) := HP.out 2 (by simp)
    go_upto_region 4 with (fail)
    refine Grow.wp_region_grow 13 [TP.eq (.slice (some ⟨pb, po, none⟩) 6 cp), TP.eq (.pointer (some ⟨pb, po, none⟩)), TP.eq (.string a), TPkd, TP.eq (.slice (some ⟨pb, po, none⟩) 6 cp), TP.eq (.pointer (some ⟨pb, po + 1, none⟩)), TP.eq (.string k), TP.eq (.int .i64 (ki)), TP.eq (.slice (some ⟨pb, po, none⟩) 6 cp), TP.eq (.pointer (some ⟨pb, po + 2, none⟩)), TP.eq (.string c), TP.eq (.agg #[.string a, .int .i64 (ki), .string c, .int .i64 0, .int .i64 0, .int .i64 0]), TPnewR w2'.heap.size #[.string ⟨#[]⟩, .int .i64 0, .string ⟨#[]⟩, .int .i64 0, .int .i64 0, .int .i64 0] 24] [[], [0], [1], [], [], [4], [5], [3, 6], [], [8], [9], [2, 7, 10], []] (by kernel_rfl) (by kernel_rfl) ⟨?o0g, ?o1g, ?o2g, ?o3g, ?o4g, ?o5g, ?o6g, ?o7g, ?o8g, ?o9g, ?o10g, ?o11g, ?o12g, trivial⟩ ?_
    case o0g | o4g | o8g =>
     intro w' hb
     show wpList _ _ _ _ _ _
     go_wp2
     exact ⟨rfl, Below.refl _ _, rfl⟩
    case o1g =>
     intro w' hb v1 hv1
     obtain rfl : v1 = _ := hv1
     show wpList _ _ _ _ _ _
     simp only [Grow.dstOf, zz1, zz3, zz4, Act.put, zz5, zz6, zz7]
     go_wp2
     exact ⟨rfl, Below.refl _ _, rfl⟩
    case o2g | o6g | o10g =>
     intro w' hb v1 hv1
     obtain rfl : v1 = _ := hv1
     have e_0' := zzc hb e_0
     have e_1' := zzc hb e_1
     have e_2' := zzc hb e_2
     show wpList _ _ _ _ _ _
     simp only [Grow.dstOf, zz1, zz2, zz3, zz4, Act.put, zz5, zz6, zz7]
     go_wp2
     exact ⟨rfl, Below.refl _ _, rfl⟩
    case o3g =>
     intro w' hb
     show wpList _ _ _ _ _ _
     go_wp2_with fail
     refine (words_at w').mono ?_
     rintro e wz ⟨vk, rfl, hkd, hbz⟩
     go_wp2
     exact ⟨hkd, hbz, rfl⟩
    case o5g | o9g =>
     intro w' hb v1 hv1
     obtain rfl : v1 = _ := hv1
     show wpList _ _ _ _ _ _
     simp only [Grow.dstOf, zz1, zz2, zz3, zz4, Act.put, zz5, zz6, zz7]
     go_wp2
     exact ⟨rfl, Below.refl _ _, rfl⟩
    case o7g =>
     intro w' hb v1 hv1 v2 hv2
     have hv1' : KdV w' v1 := hv1
     clear hv1
     obtain rfl : v2 = _ := hv2
     show wpList _ _ _ _ _ _
     simp only [Grow.dstOf, zz1, zz2, zz3, zz4, Act.put, zz5, zz6, zz7]
     go_wp2_with fail
     refine (HIX.out v1 w' hv1').mono ?_
     rintro e wz ⟨rfl, rfl⟩
     go_wp2
     exact ⟨rfl, Below.refl _ _, rfl⟩
    case o11g =>
     intro w' hb v1 hv1 v2 hv2 v3 hv3
     obtain rfl : v1 = _ := hv1
     obtain rfl : v2 = _ := hv2
     obtain rfl : v3 = _ := hv3
     show wpList _ _ _ _ _ _
     simp only [Grow.dstOf, zz1, zz2, zz3, zz4, Act.put, zz5, zz6, zz7]
     go_wp2
     exact ⟨rfl, Below.refl _ _, rfl⟩
    case o12g =>
     intro w' hb
     show wpList _ _ _ _ _ _
     go_wp2
     exact ⟨⟨_, rfl, hb.size, RH.new _ _ _⟩, ext_alloc _ _, rfl⟩
    intro w3' hbz u0 hu0 u1 hu1 u2 hu2 u3 hu3 u4 hu4 u5 hu5 u6 hu6 u7 hu7 u8 hu8 u9 hu9 u10 hu10 u11 hu11 u12 hu12
    obtain rfl : u11 = _ := hu11
    have hg9 : ∃ g, u12 = .pointer (some ⟨g, 0, none⟩) ∧ w2'.heap.size ≤ g ∧ RH w3' g #[.string ⟨#[]⟩, .int .i64 0, .string ⟨#[]⟩, .int .i64 0, .int .i64 0, .int .i64 0] 24 := hu12
    clear hu0 hu1 hu2 hu3 hu4 hu5 hu6 hu7 hu8 hu9 hu10 hu12
    obtain ⟨b_e, rfl, hgU, hRU⟩ := hg9
    have lt_o_e : w.heap.size < b_e := Nat.lt_of_lt_of_le HR_o.out.lt hgU
    have le_e : w.heap.size ≤ b_e := Nat.le_trans HW.out.size hgU
    have ltp_e : pb < b_e := Nat.lt_of_lt_of_le (HP.out.lt (by simp)) hgU
    clear hgU
    replace HR_o := Lib.hid (HR_o.out.ext hbz)
    replace HP := Lib.hid (HP.out.ext hbz)
    replace HW := Lib.hid (ext_trans HW.out hbz)
    clear e_0 e_1 e_2
    clear hbz
    have HR_e : Hid (RH w3' b_e #[.string ⟨#[]⟩, .int .i64 0, .string ⟨#[]⟩, .int .i64 0, .int .i64 0, .int .i64 0] 24) := Lib.hid hRU
    clear hRU
    show wpList _ _ _ _ _ _
    simp only [Act.put, zz5, zz6, zz7]
    have c_e_0 : w3'.cell? ⟨b_e, 0, none⟩ = some (.string ⟨#[]⟩) := (HR_e.out.cell 0).trans rfl
    have c_e_1 : w3'.cell? ⟨b_e, 1, none⟩ = some (.int .i64 0) := (HR_e.out.cell 1).trans rfl
    have c_e_2 : w3'.cell? ⟨b_e, 2, none⟩ = some (.string ⟨#[]⟩) := (HR_e.out.cell 2).trans rfl
    have c_e_3 : w3'.cell? ⟨b_e, 3, none⟩ = some (.int .i64 0) := (HR_e.out.cell 3).trans rfl
    have c_e_4 : w3'.cell? ⟨b_e, 4, none⟩ = some (.int .i64 0) := (HR_e.out.cell 4).trans rfl
    have c_e_5 : w3'.cell? ⟨b_e, 5, none⟩ = some (.int .i64 0) := (HR_e.out.cell 5).trans rfl
    have f_e_0 := HR_e.out.fre 0
    have f_e_1 := HR_e.out.fre 1
    have f_e_2 := HR_e.out.fre 2
    have f_e_3 := HR_e.out.fre 3
    have f_e_4 := HR_e.out.fre 4
    have f_e_5 := HR_e.out.fre 5
    go_upto_region 5 with (fail)
    obtain ⟨w4', hX⟩ : ∃ Z9, Z9 = ((((((w3'.setCell ⟨b_e, 0, none⟩ (.string a)).setCell ⟨b_e, 1, none⟩ (.int .i64 (ki))).setCell ⟨b_e, 2, none⟩ (.string c)).setCell ⟨b_e, 3, none⟩ (.int .i64 0)).setCell ⟨b_e, 4, none⟩ (.int .i64 0)).setCell ⟨b_e, 5, none⟩ (.int .i64 0)) := ⟨_, rfl⟩
    rw [← hX]
    have n_e : Hid (RH w4' b_e #[.string a, .int .i64 (ki), .string c, .int .i64 0, .int .i64 0, .int .i64 0] 24) := by rw [hX]; exact Lib.hid (((((((HR_e.out).set 0 (.string a)).set 1 (.int .i64 (ki))).set 2 (.string c)).set 3 (.int .i64 0)).set 4 (.int .i64 0)).set 5 (.int .i64 0))
    have n_o : Hid (RH w4' w.heap.size #[.string ⟨#[]⟩, .int .i64 0, .string ⟨#[]⟩, .int .i64 0, .int .i64 0, .int .i64 0] 24) := by rw [hX]; exact Lib.hid (zzo (zzo (zzo (zzo (zzo (zzo (HR_o.out) (by omega)) (by omega)) (by omega)) (by omega)) (by omega)) (by omega))
    have HK_ : ∀ p : Addr, p.block ≠ b_e → w4'.cell? p = w3'.cell? p := fun p hp => by rw [hX]; exact (cs_vr hp).trans ((cs_vr hp).trans ((cs_vr hp).trans ((cs_vr hp).trans ((cs_vr hp).trans (cs_vr hp)))))
    have n_HP : Hid (Pcs w4' pb po [a, k, c, x, y, z]) := Lib.hid (HP.out.far HR_e.out.box (show pb ≠ b_e by omega) HK_)
    have nW : Hid (Below w.heap.size w w4') := by rw [hX]; exact Lib.hid (zzw (zzw (zzw (zzw (zzw (zzw (HW.out) (by omega)) (by omega)) (by omega)) (by omega)) (by omega)) (by omega))
    clear c_e_0 c_e_1 c_e_2 c_e_3 c_e_4 c_e_5 f_e_0 f_e_1 f_e_2 f_e_3 f_e_4 f_e_5
    clear hX HK_ HW HR_o HR_e HP
    have HR_o := n_o; clear n_o
    have HR_e := n_e; clear n_e
    have HP := n_HP; clear n_HP
    have HW := nW; clear nW
    have e_3 : w4'.cell? ⟨pb, po + 3, none⟩ = some (.string x) := HP.out 3 (by simp)
    go_wp2_with fail
    refine (number4_at x HZx.out w4').mono ?_
    rintro e w5' ⟨rfl, hbz⟩
    obtain ⟨n1, hn1⟩ : ∃ q9, (natO 13 x.data.toList).getD 0 = q9 := ⟨_, rfl⟩
    obtain ⟨o1, ho1⟩ : ∃ q9, (natO 13 x.data.toList).isSome = q9 := ⟨_, rfl⟩
    rw [hn1, ho1]
    have HN1 : Hid (∀ v, natO 13 x.data.toList = some v → v = n1) := Lib.hid (fun v hv => by rw [hv] at hn1; exact hn1)
    have HO1 := Lib.hid ho1
    clear hn1 ho1
    replace HR_o := Lib.hid (HR_o.out.ext hbz)
    replace HR_e := Lib.hid (HR_e.out.ext hbz)
    replace HP := Lib.hid (HP.out.ext hbz)
    replace HW := Lib.hid (ext_trans HW.out hbz)
    clear e_3
    clear hbz
    have e_4 : w5'.cell? ⟨pb, po + 4, none⟩ = some (.string y) := HP.out 4 (by simp)
    go_wp2_with fail
    refine (number4_at y HZy.out w5').mono ?_
    rintro e w6' ⟨rfl, hbz⟩
    obtain ⟨n2, hn2⟩ : ∃ q9, (natO 13 y.data.toList).getD 0 = q9 := ⟨_, rfl⟩
    obtain ⟨o2, ho2⟩ : ∃ q9, (natO 13 y.data.toList).isSome = q9 := ⟨_, rfl⟩
    rw [hn2, ho2]
    have HN2 : Hid (∀ v, natO 13 y.data.toList = some v → v = n2) := Lib.hid (fun v hv => by rw [hv] at hn2; exact hn2)
    have HO2 := Lib.hid ho2
    clear hn2 ho2
    replace HR_o := Lib.hid (HR_o.out.ext hbz)
    replace HR_e := Lib.hid (HR_e.out.ext hbz)
    replace HP := Lib.hid (HP.out.ext hbz)
    replace HW := Lib.hid (ext_trans HW.out hbz)
    clear e_4
    clear hbz
    have e_5 : w6'.cell? ⟨pb, po + 5, none⟩ = some (.string z) := HP.out 5 (by simp)
    go_wp2_with fail
    refine (number4_at z HZz.out w6').mono ?_
    rintro e w7' ⟨rfl, hbz⟩
    obtain ⟨n3, hn3⟩ : ∃ q9, (natO 13 z.data.toList).getD 0 = q9 := ⟨_, rfl⟩
    obtain ⟨o3, ho3⟩ : ∃ q9, (natO 13 z.data.toList).isSome = q9 := ⟨_, rfl⟩
    rw [hn3, ho3]
    have HN3 : Hid (∀ v, natO 13 z.data.toList = some v → v = n3) := Lib.hid (fun v hv => by rw [hv] at hn3; exact hn3)
    have HO3 := Lib.hid ho3
    clear hn3 ho3
    replace HR_o := Lib.hid (HR_o.out.ext hbz)
    replace HR_e := Lib.hid (HR_e.out.ext hbz)
    replace HP := Lib.hid (HP.out.ext hbz)
    replace HW := Lib.hid (ext_trans HW.out hbz)
    clear e_5
    clear hbz
    have c_e_0 : w7'.cell? ⟨b_e, 0, none⟩ = some (.string a) := (HR_e.out.cell 0).trans rfl
    have c_e_1 : w7'.cell? ⟨b_e, 1, none⟩ = some (.int .i64 (ki)) := (HR_e.out.cell 1).trans rfl
    have c_e_2 : w7'.cell? ⟨b_e, 2, none⟩ = some (.string c) := (HR_e.out.cell 2).trans rfl
    have c_e_3 : w7'.cell? ⟨b_e, 3, none⟩ = some (.int .i64 0) := (HR_e.out.cell 3).trans rfl
    have c_e_4 : w7'.cell? ⟨b_e, 4, none⟩ = some (.int .i64 0) := (HR_e.out.cell 4).trans rfl
    have c_e_5 : w7'.cell? ⟨b_e, 5, none⟩ = some (.int .i64 0) := (HR_e.out.cell 5).trans rfl
    have f_e_0 := HR_e.out.fre 0
    have f_e_1 := HR_e.out.fre 1
    have f_e_2 := HR_e.out.fre 2
    have f_e_3 := HR_e.out.fre 3
    have f_e_4 := HR_e.out.fre 4
    have f_e_5 := HR_e.out.fre 5
    go_upto_region 9 with (fail)
    obtain ⟨w8', hX⟩ : ∃ Z9, Z9 = (((w7'.setCell ⟨b_e, 3, none⟩ (.int .i64 (n1))).setCell ⟨b_e, 4, none⟩ (.int .i64 (n2))).setCell ⟨b_e, 5, none⟩ (.int .i64 (n3))) := ⟨_, rfl⟩
    rw [← hX]
    have n_e : Hid (RH w8' b_e #[.string a, .int .i64 (ki), .string c, .int .i64 (n1), .int .i64 (n2), .int .i64 (n3)] 24) := by rw [hX]; exact Lib.hid ((((HR_e.out).set 3 (.int .i64 (n1))).set 4 (.int .i64 (n2))).set 5 (.int .i64 (n3)))
    have n_o : Hid (RH w8' w.heap.size #[.string ⟨#[]⟩, .int .i64 0, .string ⟨#[]⟩, .int .i64 0, .int .i64 0, .int .i64 0] 24) := by rw [hX]; exact Lib.hid (zzo (zzo (zzo (HR_o.out) (by omega)) (by omega)) (by omega))
    have HK_ : ∀ p : Addr, p.block ≠ b_e → w8'.cell? p = w7'.cell? p := fun p hp => by rw [hX]; exact (cs_vr hp).trans ((cs_vr hp).trans (cs_vr hp))
    have n_HP : Hid (Pcs w8' pb po [a, k, c, x, y, z]) := Lib.hid (HP.out.far HR_e.out.box (show pb ≠ b_e by omega) HK_)
    have nW : Hid (Below w.heap.size w w8') := by rw [hX]; exact Lib.hid (zzw (zzw (zzw (HW.out) (by omega)) (by omega)) (by omega))
    clear c_e_0 c_e_1 c_e_2 c_e_3 c_e_4 c_e_5 f_e_0 f_e_1 f_e_2 f_e_3 f_e_4 f_e_5
    clear hX HK_ HW HR_o HR_e HP
    have HR_o := n_o; clear n_o
    have HR_e := n_e; clear n_e
    have HP := n_HP; clear n_HP
    have HW := nW; clear nW
    by_cases hk : 0 < ki
    ·cases o1
     ·have HN : Hid (readM s.data.toList = none) := Lib.hid (HRD'.out.trans (readM6_no (.inr (.inr (.inl (nat_none HO1.out))))))
      have c_e_0 : w8'.cell? ⟨b_e, 0, none⟩ = some (.string a) := (HR_e.out.cell 0).trans rfl
      have c_e_1 : w8'.cell? ⟨b_e, 1, none⟩ = some (.int .i64 (ki)) := (HR_e.out.cell 1).trans rfl
      have c_e_2 : w8'.cell? ⟨b_e, 2, none⟩ = some (.string c) := (HR_e.out.cell 2).trans rfl
      have c_e_3 : w8'.cell? ⟨b_e, 3, none⟩ = some (.int .i64 (n1)) := (HR_e.out.cell 3).trans rfl
      have c_e_4 : w8'.cell? ⟨b_e, 4, none⟩ = some (.int .i64 (n2)) := (HR_e.out.cell 4).trans rfl
      have c_e_5 : w8'.cell? ⟨b_e, 5, none⟩ = some (.int .i64 (n3)) := (HR_e.out.cell 5).trans rfl
      have c_o_0 : w8'.cell? ⟨w.heap.size, 0, none⟩ = some (.string ⟨#[]⟩) := (HR_o.out.cell 0).trans rfl
      have c_o_1 : w8'.cell? ⟨w.heap.size, 1, none⟩ = some (.int .i64 0) := (HR_o.out.cell 1).trans rfl
      have c_o_2 : w8'.cell? ⟨w.heap.size, 2, none⟩ = some (.string ⟨#[]⟩) := (HR_o.out.cell 2).trans rfl
      have c_o_3 : w8'.cell? ⟨w.heap.size, 3, none⟩ = some (.int .i64 0) := (HR_o.out.cell 3).trans rfl
      have c_o_4 : w8'.cell? ⟨w.heap.size, 4, none⟩ = some (.int .i64 0) := (HR_o.out.cell 4).trans rfl
      have c_o_5 : w8'.cell? ⟨w.heap.size, 5, none⟩ = some (.int .i64 0) := (HR_o.out.cell 5).trans rfl
      have f_o_0 := HR_o.out.fre 0
      have f_o_1 := HR_o.out.fre 1
      have f_o_2 := HR_o.out.fre 2
      have f_o_3 := HR_o.out.fre 3
      have f_o_4 := HR_o.out.fre 4
      have f_o_5 := HR_o.out.fre 5
      go_wp2
      obtain ⟨w9', hX⟩ : ∃ Z9, Z9 = ((((((w8'.setCell ⟨w.heap.size, 0, none⟩ (.string a)).setCell ⟨w.heap.size, 1, none⟩ (.int .i64 (ki))).setCell ⟨w.heap.size, 2, none⟩ (.string c)).setCell ⟨w.heap.size, 3, none⟩ (.int .i64 (n1))).setCell ⟨w.heap.size, 4, none⟩ (.int .i64 (n2))).setCell ⟨w.heap.size, 5, none⟩ (.int .i64 (n3))) := ⟨_, rfl⟩
      rw [← hX]
      have n_o : Hid (RH w9' w.heap.size #[.string a, .int .i64 (ki), .string c, .int .i64 (n1), .int .i64 (n2), .int .i64 (n3)] 24) := by rw [hX]; exact Lib.hid (((((((HR_o.out).set 0 (.string a)).set 1 (.int .i64 (ki))).set 2 (.string c)).set 3 (.int .i64 (n1))).set 4 (.int .i64 (n2))).set 5 (.int .i64 (n3)))
      have n_e : Hid (RH w9' b_e #[.string a, .int .i64 (ki), .string c, .int .i64 (n1), .int .i64 (n2), .int .i64 (n3)] 24) := by rw [hX]; exact Lib.hid (zzo (zzo (zzo (zzo (zzo (zzo (HR_e.out) (by omega)) (by omega)) (by omega)) (by omega)) (by omega)) (by omega))
      have HK_ : ∀ p : Addr, p.block ≠ w.heap.size → w9'.cell? p = w8'.cell? p := fun p hp => by rw [hX]; exact (cs_vr hp).trans ((cs_vr hp).trans ((cs_vr hp).trans ((cs_vr hp).trans ((cs_vr hp).trans (cs_vr hp)))))
      have n_HP : Hid (Pcs w9' pb po [a, k, c, x, y, z]) := Lib.hid (HP.out.far HR_o.out.box (show pb ≠ w.heap.size by omega) HK_)
      have nW : Hid (Below w.heap.size w w9') := by rw [hX]; exact Lib.hid (zzw (zzw (zzw (zzw (zzw (zzw (HW.out) (by omega)) (by omega)) (by omega)) (by omega)) (by omega)) (by omega))
      clear c_e_0 c_e_1 c_e_2 c_e_3 c_e_4 c_e_5 c_o_0 c_o_1 c_o_2 c_o_3 c_o_4 c_o_5 f_o_0 f_o_1 f_o_2 f_o_3 f_o_4 f_o_5
      clear hX HK_ HW HR_o HR_e HP
      have HR_o := n_o; clear n_o
      have HR_e := n_e; clear n_e
      have HP := n_HP; clear n_HP
      have HW := nW; clear nW
      have c_o_0 : w9'.cell? ⟨w.heap.size, 0, none⟩ = some (.string a) := (HR_o.out.cell 0).trans rfl
      have c_o_1 : w9'.cell? ⟨w.heap.size, 1, none⟩ = some (.int .i64 (ki)) := (HR_o.out.cell 1).trans rfl
      have c_o_2 : w9'.cell? ⟨w.heap.size, 2, none⟩ = some (.string c) := (HR_o.out.cell 2).trans rfl
      have c_o_3 : w9'.cell? ⟨w.heap.size, 3, none⟩ = some (.int .i64 (n1)) := (HR_o.out.cell 3).trans rfl
      have c_o_4 : w9'.cell? ⟨w.heap.size, 4, none⟩ = some (.int .i64 (n2)) := (HR_o.out.cell 4).trans rfl
      have c_o_5 : w9'.cell? ⟨w.heap.size, 5, none⟩ = some (.int .i64 (n3)) := (HR_o.out.cell 5).trans rfl
      exact bodyPost_ret (v := .tuple #[.agg #[.string a, .int .i64 (ki), .string c, .int .i64 (n1), .int .i64 (n2), .int .i64 (n3)], .bool false]) (by simp [results, Tryd.results25, go_sem, c_o_0, c_o_1, c_o_2, c_o_3, c_o_4, c_o_5]) rfl ⟨⟨a, ki, c, n1, n2, n3⟩, _, rfl, ⟨Nat.le_trans HZa.out (by decide), Nat.le_trans HZc.out (by decide)⟩, .inr ⟨HN.out, rfl⟩, HW.out⟩
     ·cases o2
      ·have HN : Hid (readM s.data.toList = none) := Lib.hid (HRD'.out.trans (readM6_no (.inr (.inr (.inr (.inl (nat_none HO2.out)))))))
       have c_e_0 : w8'.cell? ⟨b_e, 0, none⟩ = some (.string a) := (HR_e.out.cell 0).trans rfl
       have c_e_1 : w8'.cell? ⟨b_e, 1, none⟩ = some (.int .i64 (ki)) := (HR_e.out.cell 1).trans rfl
       have c_e_2 : w8'.cell? ⟨b_e, 2, none⟩ = some (.string c) := (HR_e.out.cell 2).trans rfl
       have c_e_3 : w8'.cell? ⟨b_e, 3, none⟩ = some (.int .i64 (n1)) := (HR_e.out.cell 3).trans rfl
       have c_e_4 : w8'.cell? ⟨b_e, 4, none⟩ = some (.int .i64 (n2)) := (HR_e.out.cell 4).trans rfl
       have c_e_5 : w8'.cell? ⟨b_e, 5, none⟩ = some (.int .i64 (n3)) := (HR_e.out.cell 5).trans rfl
       have c_o_0 : w8'.cell? ⟨w.heap.size, 0, none⟩ = some (.string ⟨#[]⟩) := (HR_o.out.cell 0).trans rfl
       have c_o_1 : w8'.cell? ⟨w.heap.size, 1, none⟩ = some (.int .i64 0) := (HR_o.out.cell 1).trans rfl
       have c_o_2 : w8'.cell? ⟨w.heap.size, 2, none⟩ = some (.string ⟨#[]⟩) := (HR_o.out.cell 2).trans rfl
       have c_o_3 : w8'.cell? ⟨w.heap.size, 3, none⟩ = some (.int .i64 0) := (HR_o.out.cell 3).trans rfl
       have c_o_4 : w8'.cell? ⟨w.heap.size, 4, none⟩ = some (.int .i64 0) := (HR_o.out.cell 4).trans rfl
       have c_o_5 : w8'.cell? ⟨w.heap.size, 5, none⟩ = some (.int .i64 0) := (HR_o.out.cell 5).trans rfl
       have f_o_0 := HR_o.out.fre 0
       have f_o_1 := HR_o.out.fre 1
       have f_o_2 := HR_o.out.fre 2
       have f_o_3 := HR_o.out.fre 3
       have f_o_4 := HR_o.out.fre 4
       have f_o_5 := HR_o.out.fre 5
       go_wp2
       obtain ⟨w9', hX⟩ : ∃ Z9, Z9 = ((((((w8'.setCell ⟨w.heap.size, 0, none⟩ (.string a)).setCell ⟨w.heap.size, 1, none⟩ (.int .i64 (ki))).setCell ⟨w.heap.size, 2, none⟩ (.string c)).setCell ⟨w.heap.size, 3, none⟩ (.int .i64 (n1))).setCell ⟨w.heap.size, 4, none⟩ (.int .i64 (n2))).setCell ⟨w.heap.size, 5, none⟩ (.int .i64 (n3))) := ⟨_, rfl⟩
       rw [← hX]
       have n_o : Hid (RH w9' w.heap.size #[.string a, .int .i64 (ki), .string c, .int .i64 (n1), .int .i64 (n2), .int .i64 (n3)] 24) := by rw [hX]; exact Lib.hid (((((((HR_o.out).set 0 (.string a)).set 1 (.int .i64 (ki))).set 2 (.string c)).set 3 (.int .i64 (n1))).set 4 (.int .i64 (n2))).set 5 (.int .i64 (n3)))
       have n_e : Hid (RH w9' b_e #[.string a, .int .i64 (ki), .string c, .int .i64 (n1), .int .i64 (n2), .int .i64 (n3)] 24) := by rw [hX]; exact Lib.hid (zzo (zzo (zzo (zzo (zzo (zzo (HR_e.out) (by omega)) (by omega)) (by omega)) (by omega)) (by omega)) (by omega))
       have HK_ : ∀ p : Addr, p.block ≠ w.heap.size → w9'.cell? p = w8'.cell? p := fun p hp => by rw [hX]; exact (cs_vr hp).trans ((cs_vr hp).trans ((cs_vr hp).trans ((cs_vr hp).trans ((cs_vr hp).trans (cs_vr hp)))))
       have n_HP : Hid (Pcs w9' pb po [a, k, c, x, y, z]) := Lib.hid (HP.out.far HR_o.out.box (show pb ≠ w.heap.size by omega) HK_)
       have nW : Hid (Below w.heap.size w w9') := by rw [hX]; exact Lib.hid (zzw (zzw (zzw (zzw (zzw (zzw (HW.out) (by omega)) (by omega)) (by omega)) (by omega)) (by omega)) (by omega))
       clear c_e_0 c_e_1 c_e_2 c_e_3 c_e_4 c_e_5 c_o_0 c_o_1 c_o_2 c_o_3 c_o_4 c_o_5 f_o_0 f_o_1 f_o_2 f_o_3 f_o_4 f_o_5
       clear hX HK_ HW HR_o HR_e HP
       have HR_o := n_o; clear n_o
       have HR_e := n_e; clear n_e
       have HP := n_HP; clear n_HP
       have HW := nW; clear nW
       have c_o_0 : w9'.cell? ⟨w.heap.size, 0, none⟩ = some (.string a) := (HR_o.out.cell 0).trans rfl
       have c_o_1 : w9'.cell? ⟨w.heap.size, 1, none⟩ = some (.int .i64 (ki)) := (HR_o.out.cell 1).trans rfl
       have c_o_2 : w9'.cell? ⟨w.heap.size, 2, none⟩ = some (.string c) := (HR_o.out.cell 2).trans rfl
       have c_o_3 : w9'.cell? ⟨w.heap.size, 3, none⟩ = some (.int .i64 (n1)) := (HR_o.out.cell 3).trans rfl
       have c_o_4 : w9'.cell? ⟨w.heap.size, 4, none⟩ = some (.int .i64 (n2)) := (HR_o.out.cell 4).trans rfl
       have c_o_5 : w9'.cell? ⟨w.heap.size, 5, none⟩ = some (.int .i64 (n3)) := (HR_o.out.cell 5).trans rfl
       exact bodyPost_ret (v := .tuple #[.agg #[.string a, .int .i64 (ki), .string c, .int .i64 (n1), .int .i64 (n2), .int .i64 (n3)], .bool false]) (by simp [results, Tryd.results25, go_sem, c_o_0, c_o_1, c_o_2, c_o_3, c_o_4, c_o_5]) rfl ⟨⟨a, ki, c, n1, n2, n3⟩, _, rfl, ⟨Nat.le_trans HZa.out (by decide), Nat.le_trans HZc.out (by decide)⟩, .inr ⟨HN.out, rfl⟩, HW.out⟩
      ·have HN : Hid ((readM s.data.toList = some ⟨a, ki, c, n1, n2, n3⟩ ∧ o3 = true) ∨ (readM s.data.toList = none ∧ o3 = false)) := Lib.hid (by
        rw [HRD'.out]
        cases o3 with
        | false => exact .inr ⟨readM6_no (.inr (.inr (.inr (.inr (.inl (nat_none HO3.out)))))), rfl⟩
        | true => exact .inl ⟨by rw [readM6_yes (nat_get HO1.out HN1.out) (nat_get HO2.out HN2.out) (nat_get HO3.out HN3.out) HWa.out HWe.out (by rw [HKI.out]; exact hk), bm_data, bm_data, HKI.out], rfl⟩)
       have c_e_0 : w8'.cell? ⟨b_e, 0, none⟩ = some (.string a) := (HR_e.out.cell 0).trans rfl
       have c_e_1 : w8'.cell? ⟨b_e, 1, none⟩ = some (.int .i64 (ki)) := (HR_e.out.cell 1).trans rfl
       have c_e_2 : w8'.cell? ⟨b_e, 2, none⟩ = some (.string c) := (HR_e.out.cell 2).trans rfl
       have c_e_3 : w8'.cell? ⟨b_e, 3, none⟩ = some (.int .i64 (n1)) := (HR_e.out.cell 3).trans rfl
       have c_e_4 : w8'.cell? ⟨b_e, 4, none⟩ = some (.int .i64 (n2)) := (HR_e.out.cell 4).trans rfl
       have c_e_5 : w8'.cell? ⟨b_e, 5, none⟩ = some (.int .i64 (n3)) := (HR_e.out.cell 5).trans rfl
       have c_o_0 : w8'.cell? ⟨w.heap.size, 0, none⟩ = some (.string ⟨#[]⟩) := (HR_o.out.cell 0).trans rfl
       have c_o_1 : w8'.cell? ⟨w.heap.size, 1, none⟩ = some (.int .i64 0) := (HR_o.out.cell 1).trans rfl
       have c_o_2 : w8'.cell? ⟨w.heap.size, 2, none⟩ = some (.string ⟨#[]⟩) := (HR_o.out.cell 2).trans rfl
       have c_o_3 : w8'.cell? ⟨w.heap.size, 3, none⟩ = some (.int .i64 0) := (HR_o.out.cell 3).trans rfl
       have c_o_4 : w8'.cell? ⟨w.heap.size, 4, none⟩ = some (.int .i64 0) := (HR_o.out.cell 4).trans rfl
       have c_o_5 : w8'.cell? ⟨w.heap.size, 5, none⟩ = some (.int .i64 0) := (HR_o.out.cell 5).trans rfl
       have f_o_0 := HR_o.out.fre 0
       have f_o_1 := HR_o.out.fre 1
       have f_o_2 := HR_o.out.fre 2
       have f_o_3 := HR_o.out.fre 3
       have f_o_4 := HR_o.out.fre 4
       have f_o_5 := HR_o.out.fre 5
       go_wp2
       obtain ⟨w9', hX⟩ : ∃ Z9, Z9 = ((((((w8'.setCell ⟨w.heap.size, 0, none⟩ (.string a)).setCell ⟨w.heap.size, 1, none⟩ (.int .i64 (ki))).setCell ⟨w.heap.size, 2, none⟩ (.string c)).setCell ⟨w.heap.size, 3, none⟩ (.int .i64 (n1))).setCell ⟨w.heap.size, 4, none⟩ (.int .i64 (n2))).setCell ⟨w.heap.size, 5, none⟩ (.int .i64 (n3))) := ⟨_, rfl⟩
       rw [← hX]
       have n_o : Hid (RH w9' w.heap.size #[.string a, .int .i64 (ki), .string c, .int .i64 (n1), .int .i64 (n2), .int .i64 (n3)] 24) := by rw [hX]; exact Lib.hid (((((((HR_o.out).set 0 (.string a)).set 1 (.int .i64 (ki))).set 2 (.string c)).set 3 (.int .i64 (n1))).set 4 (.int .i64 (n2))).set 5 (.int .i64 (n3)))
       have n_e : Hid (RH w9' b_e #[.string a, .int .i64 (ki), .string c, .int .i64 (n1), .int .i64 (n2), .int .i64 (n3)] 24) := by rw [hX]; exact Lib.hid (zzo (zzo (zzo (zzo (zzo (zzo (HR_e.out) (by omega)) (by omega)) (by omega)) (by omega)) (by omega)) (by omega))
       have HK_ : ∀ p : Addr, p.block ≠ w.heap.size → w9'.cell? p = w8'.cell? p := fun p hp => by rw [hX]; exact (cs_vr hp).trans ((cs_vr hp).trans ((cs_vr hp).trans ((cs_vr hp).trans ((cs_vr hp).trans (cs_vr hp)))))
       have n_HP : Hid (Pcs w9' pb po [a, k, c, x, y, z]) := Lib.hid (HP.out.far HR_o.out.box (show pb ≠ w.heap.size by omega) HK_)
       have nW : Hid (Below w.heap.size w w9') := by rw [hX]; exact Lib.hid (zzw (zzw (zzw (zzw (zzw (zzw (HW.out) (by omega)) (by omega)) (by omega)) (by omega)) (by omega)) (by omega))
       clear c_e_0 c_e_1 c_e_2 c_e_3 c_e_4 c_e_5 c_o_0 c_o_1 c_o_2 c_o_3 c_o_4 c_o_5 f_o_0 f_o_1 f_o_2 f_o_3 f_o_4 f_o_5
       clear hX HK_ HW HR_o HR_e HP
       have HR_o := n_o; clear n_o
       have HR_e := n_e; clear n_e
       have HP := n_HP; clear n_HP
       have HW := nW; clear nW
       have c_o_0 : w9'.cell? ⟨w.heap.size, 0, none⟩ = some (.string a) := (HR_o.out.cell 0).trans rfl
       have c_o_1 : w9'.cell? ⟨w.heap.size, 1, none⟩ = some (.int .i64 (ki)) := (HR_o.out.cell 1).trans rfl
       have c_o_2 : w9'.cell? ⟨w.heap.size, 2, none⟩ = some (.string c) := (HR_o.out.cell 2).trans rfl
       have c_o_3 : w9'.cell? ⟨w.heap.size, 3, none⟩ = some (.int .i64 (n1)) := (HR_o.out.cell 3).trans rfl
       have c_o_4 : w9'.cell? ⟨w.heap.size, 4, none⟩ = some (.int .i64 (n2)) := (HR_o.out.cell 4).trans rfl
       have c_o_5 : w9'.cell? ⟨w.heap.size, 5, none⟩ = some (.int .i64 (n3)) := (HR_o.out.cell 5).trans rfl
       exact bodyPost_ret (v := .tuple #[.agg #[.string a, .int .i64 (ki), .string c, .int .i64 (n1), .int .i64 (n2), .int .i64 (n3)], .bool o3]) (by simp [results, Tryd.results25, go_sem, c_o_0, c_o_1, c_o_2, c_o_3, c_o_4, c_o_5]) rfl ⟨⟨a, ki, c, n1, n2, n3⟩, _, rfl, ⟨Nat.le_trans HZa.out (by decide), Nat.le_trans HZc.out (by decide)⟩, HN.out, HW.out⟩
    ·have HKN : Hid (¬ 0 < kindI k.data.toList) := Lib.hid (by rw [HKI.out]; exact hk)
     have hk' : decide (0 < ki) = false := decide_eq_false hk
     clear hk
     have HN : Hid (readM s.data.toList = none) := Lib.hid (HRD'.out.trans (readM6_no (.inr (.inr (.inr (.inr (.inr HKN.out)))))))
     have c_e_0 : w8'.cell? ⟨b_e, 0, none⟩ = some (.string a) := (HR_e.out.cell 0).trans rfl
     have c_e_1 : w8'.cell? ⟨b_e, 1, none⟩ = some (.int .i64 (ki)) := (HR_e.out.cell 1).trans rfl
     have c_e_2 : w8'.cell? ⟨b_e, 2, none⟩ = some (.string c) := (HR_e.out.cell 2).trans rfl
     have c_e_3 : w8'.cell? ⟨b_e, 3, none⟩ = some (.int .i64 (n1)) := (HR_e.out.cell 3).trans rfl
     have c_e_4 : w8'.cell? ⟨b_e, 4, none⟩ = some (.int .i64 (n2)) := (HR_e.out.cell 4).trans rfl
     have c_e_5 : w8'.cell? ⟨b_e, 5, none⟩ = some (.int .i64 (n3)) := (HR_e.out.cell 5).trans rfl
     have c_o_0 : w8'.cell? ⟨w.heap.size, 0, none⟩ = some (.string ⟨#[]⟩) := (HR_o.out.cell 0).trans rfl
     have c_o_1 : w8'.cell? ⟨w.heap.size, 1, none⟩ = some (.int .i64 0) := (HR_o.out.cell 1).trans rfl
     have c_o_2 : w8'.cell? ⟨w.heap.size, 2, none⟩ = some (.string ⟨#[]⟩) := (HR_o.out.cell 2).trans rfl
     have c_o_3 : w8'.cell? ⟨w.heap.size, 3, none⟩ = some (.int .i64 0) := (HR_o.out.cell 3).trans rfl
     have c_o_4 : w8'.cell? ⟨w.heap.size, 4, none⟩ = some (.int .i64 0) := (HR_o.out.cell 4).trans rfl
     have c_o_5 : w8'.cell? ⟨w.heap.size, 5, none⟩ = some (.int .i64 0) := (HR_o.out.cell 5).trans rfl
     have f_o_0 := HR_o.out.fre 0
     have f_o_1 := HR_o.out.fre 1
     have f_o_2 := HR_o.out.fre 2
     have f_o_3 := HR_o.out.fre 3
     have f_o_4 := HR_o.out.fre 4
     have f_o_5 := HR_o.out.fre 5
     go_wp2
     obtain ⟨w9', hX⟩ : ∃ Z9, Z9 = ((((((w8'.setCell ⟨w.heap.size, 0, none⟩ (.string a)).setCell ⟨w.heap.size, 1, none⟩ (.int .i64 (ki))).setCell ⟨w.heap.size, 2, none⟩ (.string c)).setCell ⟨w.heap.size, 3, none⟩ (.int .i64 (n1))).setCell ⟨w.heap.size, 4, none⟩ (.int .i64 (n2))).setCell ⟨w.heap.size, 5, none⟩ (.int .i64 (n3))) := ⟨_, rfl⟩
     rw [← hX]
     have n_o : Hid (RH w9' w.heap.size #[.string a, .int .i64 (ki), .string c, .int .i64 (n1), .int .i64 (n2), .int .i64 (n3)] 24) := by rw [hX]; exact Lib.hid (((((((HR_o.out).set 0 (.string a)).set 1 (.int .i64 (ki))).set 2 (.string c)).set 3 (.int .i64 (n1))).set 4 (.int .i64 (n2))).set 5 (.int .i64 (n3)))
     have n_e : Hid (RH w9' b_e #[.string a, .int .i64 (ki), .string c, .int .i64 (n1), .int .i64 (n2), .int .i64 (n3)] 24) := by rw [hX]; exact Lib.hid (zzo (zzo (zzo (zzo (zzo (zzo (HR_e.out) (by omega)) (by omega)) (by omega)) (by omega)) (by omega)) (by omega))
     have HK_ : ∀ p : Addr, p.block ≠ w.heap.size → w9'.cell? p = w8'.cell? p := fun p hp => by rw [hX]; exact (cs_vr hp).trans ((cs_vr hp).trans ((cs_vr hp).trans ((cs_vr hp).trans ((cs_vr hp).trans (cs_vr hp)))))
     have n_HP : Hid (Pcs w9' pb po [a, k, c, x, y, z]) := Lib.hid (HP.out.far HR_o.out.box (show pb ≠ w.heap.size by omega) HK_)
     have nW : Hid (Below w.heap.size w w9') := by rw [hX]; exact Lib.hid (zzw (zzw (zzw (zzw (zzw (zzw (HW.out) (by omega)) (by omega)) (by omega)) (by omega)) (by omega)) (by omega))
     clear c_e_0 c_e_1 c_e_2 c_e_3 c_e_4 c_e_5 c_o_0 c_o_1 c_o_2 c_o_3 c_o_4 c_o_5 f_o_0 f_o_1 f_o_2 f_o_3 f_o_4 f_o_5
     clear hX HK_ HW HR_o HR_e HP
     have HR_o := n_o; clear n_o
     have HR_e := n_e; clear n_e
     have HP := n_HP; clear n_HP
     have HW := nW; clear nW
     have c_o_0 : w9'.cell? ⟨w.heap.size, 0, none⟩ = some (.string a) := (HR_o.out.cell 0).trans rfl
     have c_o_1 : w9'.cell? ⟨w.heap.size, 1, none⟩ = some (.int .i64 (ki)) := (HR_o.out.cell 1).trans rfl
     have c_o_2 : w9'.cell? ⟨w.heap.size, 2, none⟩ = some (.string c) := (HR_o.out.cell 2).trans rfl
     have c_o_3 : w9'.cell? ⟨w.heap.size, 3, none⟩ = some (.int .i64 (n1)) := (HR_o.out.cell 3).trans rfl
     have c_o_4 : w9'.cell? ⟨w.heap.size, 4, none⟩ = some (.int .i64 (n2)) := (HR_o.out.cell 4).trans rfl
     have c_o_5 : w9'.cell? ⟨w.heap.size, 5, none⟩ = some (.int .i64 (n3)) := (HR_o.out.cell 5).trans rfl
     exact bodyPost_ret (v := .tuple #[.agg #[.string a, .int .i64 (ki), .string c, .int .i64 (n1), .int .i64 (n2), .int .i64 (n3)], .bool false]) (by simp [results, Tryd.results25, go_sem, c_o_0, c_o_1, c_o_2, c_o_3, c_o_4, c_o_5]) rfl ⟨⟨a, ki, c, n1, n2, n3⟩, _, rfl, ⟨Nat.le_trans HZa.out (by decide), Nat.le_trans HZc.out (by decide)⟩, .inr ⟨HN.out, rfl⟩, HW.out⟩
 ·have HN : Hid (readM s.data.toList = none) := Lib.hid (HRD.out.trans (readMW_len (by rw [List.length_map, hn]; exact h6)))
  have h6' : ((n : Int) != 6) = true := by simp; omega
  clear h6 hn HSL
  have c_o_0 : w2'.cell? ⟨w.heap.size, 0, none⟩ = some (.string ⟨#[]⟩) := (HR_o.out.cell 0).trans rfl
  have c_o_1 : w2'.cell? ⟨w.heap.size, 1, none⟩ = some (.int .i64 0) := (HR_o.out.cell 1).trans rfl
  have c_o_2 : w2'.cell? ⟨w.heap.size, 2, none⟩ = some (.string ⟨#[]⟩) := (HR_o.out.cell 2).trans rfl
  have c_o_3 : w2'.cell? ⟨w.heap.size, 3, none⟩ = some (.int .i64 0) := (HR_o.out.cell 3).trans rfl
  have c_o_4 : w2'.cell? ⟨w.heap.size, 4, none⟩ = some (.int .i64 0) := (HR_o.out.cell 4).trans rfl
  have c_o_5 : w2'.cell? ⟨w.heap.size, 5, none⟩ = some (.int .i64 0) := (HR_o.out.cell 5).trans rfl
  have f_o_0 := HR_o.out.fre 0
  have f_o_1 := HR_o.out.fre 1
  have f_o_2 := HR_o.out.fre 2
  have f_o_3 := HR_o.out.fre 3
  have f_o_4 := HR_o.out.fre 4
  have f_o_5 := HR_o.out.fre 5
  go_wp2
  obtain ⟨w3', hX⟩ : ∃ Z9, Z9 = ((((((w2'.setCell ⟨w.heap.size, 0, none⟩ (.string ⟨#[]⟩)).setCell ⟨w.heap.size, 1, none⟩ (.int .i64 0)).setCell ⟨w.heap.size, 2, none⟩ (.string ⟨#[]⟩)).setCell ⟨w.heap.size, 3, none⟩ (.int .i64 0)).setCell ⟨w.heap.size, 4, none⟩ (.int .i64 0)).setCell ⟨w.heap.size, 5, none⟩ (.int .i64 0)) := ⟨_, rfl⟩
  rw [← hX]
  have n_o : Hid (RH w3' w.heap.size #[.string ⟨#[]⟩, .int .i64 0, .string ⟨#[]⟩, .int .i64 0, .int .i64 0, .int .i64 0] 24) := by rw [hX]; exact Lib.hid (((((((HR_o.out).set 0 (.string ⟨#[]⟩)).set 1 (.int .i64 0)).set 2 (.string ⟨#[]⟩)).set 3 (.int .i64 0)).set 4 (.int .i64 0)).set 5 (.int .i64 0))
  have HK_ : ∀ p : Addr, p.block ≠ w.heap.size → w3'.cell? p = w2'.cell? p := fun p hp => by rw [hX]; exact (cs_vr hp).trans ((cs_vr hp).trans ((cs_vr hp).trans ((cs_vr hp).trans ((cs_vr hp).trans (cs_vr hp)))))
  have nW : Hid (Below w.heap.size w w3') := by rw [hX]; exact Lib.hid (zzw (zzw (zzw (zzw (zzw (zzw (HW.out) (by omega)) (by omega)) (by omega)) (by omega)) (by omega)) (by omega))
  clear c_o_0 c_o_1 c_o_2 c_o_3 c_o_4 c_o_5 f_o_0 f_o_1 f_o_2 f_o_3 f_o_4 f_o_5
  clear hX HK_ HW HR_o 
  have HR_o := n_o; clear n_o
  have HW := nW; clear nW
  have c_o_0 : w3'.cell? ⟨w.heap.size, 0, none⟩ = some (.string ⟨#[]⟩) := (HR_o.out.cell 0).trans rfl
  have c_o_1 : w3'.cell? ⟨w.heap.size, 1, none⟩ = some (.int .i64 0) := (HR_o.out.cell 1).trans rfl
  have c_o_2 : w3'.cell? ⟨w.heap.size, 2, none⟩ = some (.string ⟨#[]⟩) := (HR_o.out.cell 2).trans rfl
  have c_o_3 : w3'.cell? ⟨w.heap.size, 3, none⟩ = some (.int .i64 0) := (HR_o.out.cell 3).trans rfl
  have c_o_4 : w3'.cell? ⟨w.heap.size, 4, none⟩ = some (.int .i64 0) := (HR_o.out.cell 4).trans rfl
  have c_o_5 : w3'.cell? ⟨w.heap.size, 5, none⟩ = some (.int .i64 0) := (HR_o.out.cell 5).trans rfl
  exact bodyPost_ret (v := .tuple #[.agg #[.string ⟨#[]⟩, .int .i64 0, .string ⟨#[]⟩, .int .i64 0, .int .i64 0, .int .i64 0], .bool false]) (by simp [results, Tryd.results25, go_sem, c_o_0, c_o_1, c_o_2, c_o_3, c_o_4, c_o_5]) rfl ⟨⟨⟨#[]⟩, 0, ⟨#[]⟩, 0, 0, 0⟩, _, rfl, ⟨zleM, zleM⟩, .inr ⟨HN.out, rfl⟩, HW.out⟩
end Tx
end Go.Proofs.YteaaibpanocgaaaDoor
