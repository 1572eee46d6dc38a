/- readLine of package metric. Printed by gen_mtr.py. -/
import Derived.Test.YteaaibpanocgaaaDoorMt05
import Derived.Test.YteaaibpanocgaaaDoorMt06
namespace Go.Proofs.YteaaibpanocgaaaDoor
open Go.RowKit
namespace Tx
open _root_.Go.Proofs.YteaaibpanocgaaaDoor.Nm
open _root_.Go.Proofs.YteaaibpanocgaaaDoor.Nt (RH RH.cell RH.box RH.lt RH.new RH.ext RH.fre RH.set RH.other)
set_option maxRecDepth 100000 in
set_option maxHeartbeats 16000000 in
theorem mtread_at (s : ByteArray) (hs : s.size ≤ 1048576) (w : World) (he : Er w) (ht : Tb w) (hm : Ml w) : Calls Tryd.prog 24 #[.string s] w (RdM s.data.toList w) := by
 have Hhs0 := Lib.hid hs
 have Hhe0 := Lib.hid he
 have Hht0 := Lib.hid ht
 have Hhm0 := Lib.hid hm
 clear hs he ht hm
 go_enter Tryd.func24, Tryd.ntmps24
 go_upto_region 1 with (fail)
 refine wp_vr1 fun w1' hbz hR0 => ?_
 have HR_o : Hid (RH w1' w.heap.size #[.string ⟨#[]⟩, .int .i64 0, .string ⟨#[]⟩, .int .i64 0, .int .i64 0, .int .i64 0] 24) := Lib.hid hR0
 have HW := Lib.hid hbz
 clear hbz hR0
 go_wp2_with fail
 refine (split_at s 32 (by have := Hhs0.out; omega) w1' (Hhm0.out.ext HW.out)).mono ?_
 rintro e w2' ⟨ap, cp, rfl, hsl, hbz⟩
 obtain ⟨P, hP⟩ : ∃ P, (cutL 32 s.data.toList).map stB = P := ⟨_, rfl⟩
 rw [hP] at hsl ⊢
 have HSL : Hid (SlS w2' ap P cp) := Lib.hid hsl
 clear hsl
 replace HR_o := Lib.hid (HR_o.out.ext hbz)
 replace HW := Lib.hid (ext_trans HW.out hbz)
 clear hbz
 have HPZ : Hid (∀ u ∈ P, u.size ≤ 1048576) := Lib.hid (by
  rw [← hP]
  intro u hu
  obtain ⟨x, hx, rfl⟩ := List.mem_map.1 hu
  have h9 := cutL_len x hx
  have h8 := Hhs0.out
  have h7 : s.data.toList.length = s.size := Array.length_toList
  rw [stB_size]; omega)
 have HRD : Hid (readM s.data.toList = readMW (P.map (·.data.toList))) := Lib.hid (by rw [← hP, List.map_map]; show readMW (cutL 32 s.data.toList) = _; congr 1; exact (List.map_id _).symm)
 clear hP
 obtain ⟨n, hn⟩ : ∃ z, P.length = z := ⟨_, rfl⟩
 rw [hn]
 by_cases h6 : n = 6
 ·subst h6
  obtain ⟨a, k, c, x, y, z, rfl⟩ : ∃ a k c x y z, P = [a, k, c, x, y, z] := by
   match P, hn with
   | [a, k, c, x, y, z], _ => exact ⟨a, k, c, x, y, z, rfl⟩
  clear hn
  obtain ⟨pb, po, rfl, hpc⟩ := SlS.pcs HSL.out (by simp)
  have HP : Hid (Pcs w2' pb po [a, k, c, x, y, z]) := Lib.hid hpc
  have npo : pb ≠ w.heap.size := Pcs.neM hpc (by simp) HR_o.out.box
  clear hpc HSL
  have HZa : Hid (a.size ≤ 1048576) := Lib.hid (HPZ.out a (by simp))
  have HZk : Hid (k.size ≤ 1048576) := Lib.hid (HPZ.out k (by simp))
  have HZc : Hid (c.size ≤ 1048576) := Lib.hid (HPZ.out c (by simp))
  have HZx : Hid (x.size ≤ 1048576) := Lib.hid (HPZ.out x (by simp))
  have HZy : Hid (y.size ≤ 1048576) := Lib.hid (HPZ.out y (by simp))
  have HZz : Hid (z.size ≤ 1048576) := Lib.hid (HPZ.out z (by simp))
  clear HPZ
  have HRD' : Hid (readM s.data.toList = readM6 a.data.toList k.data.toList c.data.toList x.data.toList y.data.toList z.data.toList) := HRD
  clear HRD
  have e_0 : w2'.cell? ⟨pb, po, none⟩ = some (.string a) := HP.out 0 (by simp)
  have e_2 : w2'.cell? ⟨pb, po + 2, none⟩ = some (.string c) := HP.out 2 (by simp)
  obtain ⟨wa, hwa⟩ : ∃ z, wordsB a.data.toList = z := ⟨_, rfl⟩
  have HWa := Lib.hid hwa
  have HXa := Lib.hid (fun W9 => (by have h9 := flag_XisRow a (Nat.le_trans HZa.out (by decide)) W9; rw [hwa] at h9; exact h9 : Calls Tryd.prog 34 #[.string a] W9 fun e w' => e = .returned (.bool wa) ∧ W9 = w'))
  clear hwa
  obtain ⟨we, hwe⟩ : ∃ z, wordsB c.data.toList = z := ⟨_, rfl⟩
  have HWe := Lib.hid hwe
  have HXe := Lib.hid (fun W9 => (by have h9 := flag_XisRow c (Nat.le_trans HZc.out (by decide)) W9; rw [hwe] at h9; exact h9 : Calls Tryd.prog 34 #[.string c] W9 fun e w' => e = .returned (.bool we) ∧ W9 = w'))
  clear hwe
  go_wp2_with fail
  refine (HXa.out _).mono ?_
  rintro e w9 ⟨rfl, hw9⟩
  subst hw9
  clear HXa
  cases wa
  ·have HN : Hid (readM s.data.toList = none) := Lib.hid (HRD'.out.trans (readM6_no (.inl HWa.out)))
   have c_o_0 : w2'.cell? ⟨w.heap.size, 0, none⟩ = some (.string ⟨#[]⟩) := (HR_o.out.cell 0).trans rfl
   have c_o_1 : w2'.cell? ⟨w.heap.size, 1, none⟩ = some (.int .i64 0) := (HR_o.out.cell 1).trans rfl
   have c_o_2 : w2'.cell? ⟨w.heap.size, 2, none⟩ = some (.string ⟨#[]⟩) := (HR_o.out.cell 2).trans rfl
   have c_o_3 : w2'.cell? ⟨w.heap.size, 3, none⟩ = some (.int .i64 0) := (HR_o.out.cell 3).trans rfl
   have c_o_4 : w2'.cell? ⟨w.heap.size, 4, none⟩ = some (.int .i64 0) := (HR_o.out.cell 4).trans rfl
   have c_o_5 : w2'.cell? ⟨w.heap.size, 5, none⟩ = some (.int .i64 0) := (HR_o.out.cell 5).trans rfl
   have f_o_0 := HR_o.out.fre 0
   have f_o_1 := HR_o.out.fre 1
   have f_o_2 := HR_o.out.fre 2
   have f_o_3 := HR_o.out.fre 3
   have f_o_4 := HR_o.out.fre 4
   have f_o_5 := HR_o.out.fre 5
   go_wp2
   obtain ⟨w3', hX⟩ : ∃ Z9, Z9 = ((((((w2'.setCell ⟨w.heap.size, 0, none⟩ (.string ⟨#[]⟩)).setCell ⟨w.heap.size, 1, none⟩ (.int .i64 0)).setCell ⟨w.heap.size, 2, none⟩ (.string ⟨#[]⟩)).setCell ⟨w.heap.size, 3, none⟩ (.int .i64 0)).setCell ⟨w.heap.size, 4, none⟩ (.int .i64 0)).setCell ⟨w.heap.size, 5, none⟩ (.int .i64 0)) := ⟨_, rfl⟩
   rw [← hX]
   have n_o : Hid (RH w3' w.heap.size #[.string ⟨#[]⟩, .int .i64 0, .string ⟨#[]⟩, .int .i64 0, .int .i64 0, .int .i64 0] 24) := by rw [hX]; exact Lib.hid (((((((HR_o.out).set 0 (.string ⟨#[]⟩)).set 1 (.int .i64 0)).set 2 (.string ⟨#[]⟩)).set 3 (.int .i64 0)).set 4 (.int .i64 0)).set 5 (.int .i64 0))
   have HK_ : ∀ p : Addr, p.block ≠ w.heap.size → w3'.cell? p = w2'.cell? p := fun p hp => by rw [hX]; exact (cs_vr hp).trans ((cs_vr hp).trans ((cs_vr hp).trans ((cs_vr hp).trans ((cs_vr hp).trans (cs_vr hp)))))
   have n_HP : Hid (Pcs w3' pb po [a, k, c, x, y, z]) := Lib.hid (HP.out.far HR_o.out.box (show pb ≠ w.heap.size by omega) HK_)
   have nW : Hid (Below w.heap.size w w3') := by rw [hX]; exact Lib.hid (zzw (zzw (zzw (zzw (zzw (zzw (HW.out) (by omega)) (by omega)) (by omega)) (by omega)) (by omega)) (by omega))
   clear e_0 e_2 c_o_0 c_o_1 c_o_2 c_o_3 c_o_4 c_o_5 f_o_0 f_o_1 f_o_2 f_o_3 f_o_4 f_o_5
   clear hX HK_ HW HR_o HP
   have HR_o := n_o; clear n_o
   have HP := n_HP; clear n_HP
   have HW := nW; clear nW
   have c_o_0 : w3'.cell? ⟨w.heap.size, 0, none⟩ = some (.string ⟨#[]⟩) := (HR_o.out.cell 0).trans rfl
   have c_o_1 : w3'.cell? ⟨w.heap.size, 1, none⟩ = some (.int .i64 0) := (HR_o.out.cell 1).trans rfl
   have c_o_2 : w3'.cell? ⟨w.heap.size, 2, none⟩ = some (.string ⟨#[]⟩) := (HR_o.out.cell 2).trans rfl
   have c_o_3 : w3'.cell? ⟨w.heap.size, 3, none⟩ = some (.int .i64 0) := (HR_o.out.cell 3).trans rfl
   have c_o_4 : w3'.cell? ⟨w.heap.size, 4, none⟩ = some (.int .i64 0) := (HR_o.out.cell 4).trans rfl
   have c_o_5 : w3'.cell? ⟨w.heap.size, 5, none⟩ = some (.int .i64 0) := (HR_o.out.cell 5).trans rfl
   exact bodyPost_ret (v := .tuple #[.agg #[.string ⟨#[]⟩, .int .i64 0, .string ⟨#[]⟩, .int .i64 0, .int .i64 0, .int .i64 0], .bool false]) (by simp [results, Tryd.results24, go_sem, c_o_0, c_o_1, c_o_2, c_o_3, c_o_4, c_o_5]) rfl ⟨⟨⟨#[]⟩, 0, ⟨#[]⟩, 0, 0, 0⟩, _, rfl, ⟨zleM, zleM⟩, .inr ⟨HN.out, rfl⟩, HW.out⟩
  ·go_wp2_with fail
   refine (HXe.out _).mono ?_
   rintro e w9 ⟨rfl, hw9⟩
   subst hw9
   clear HXe
   cases we
   ·have HN : Hid (readM s.data.toList = none) := Lib.hid (HRD'.out.trans (readM6_no (.inr (.inl HWe.out))))
    have c_o_0 : w2'.cell? ⟨w.heap.size, 0, none⟩ = some (.string ⟨#[]⟩) := (HR_o.out.cell 0).trans rfl
    have c_o_1 : w2'.cell? ⟨w.heap.size, 1, none⟩ = some (.int .i64 0) := (HR_o.out.cell 1).trans rfl
    have c_o_2 : w2'.cell? ⟨w.heap.size, 2, none⟩ = some (.string ⟨#[]⟩) := (HR_o.out.cell 2).trans rfl
    have c_o_3 : w2'.cell? ⟨w.heap.size, 3, none⟩ = some (.int .i64 0) := (HR_o.out.cell 3).trans rfl
    have c_o_4 : w2'.cell? ⟨w.heap.size, 4, none⟩ = some (.int .i64 0) := (HR_o.out.cell 4).trans rfl
    have c_o_5 : w2'.cell? ⟨w.heap.size, 5, none⟩ = some (.int .i64 0) := (HR_o.out.cell 5).trans rfl
    have f_o_0 := HR_o.out.fre 0
    have f_o_1 := HR_o.out.fre 1
    have f_o_2 := HR_o.out.fre 2
    have f_o_3 := HR_o.out.fre 3
    have f_o_4 := HR_o.out.fre 4
    have f_o_5 := HR_o.out.fre 5
    go_wp2
    obtain ⟨w3', hX⟩ : ∃ Z9, Z9 = ((((((w2'.setCell ⟨w.heap.size, 0, none⟩ (.string ⟨#[]⟩)).setCell ⟨w.heap.size, 1, none⟩ (.int .i64 0)).setCell ⟨w.heap.size, 2, none⟩ (.string ⟨#[]⟩)).setCell ⟨w.heap.size, 3, none⟩ (.int .i64 0)).setCell ⟨w.heap.size, 4, none⟩ (.int .i64 0)).setCell ⟨w.heap.size, 5, none⟩ (.int .i64 0)) := ⟨_, rfl⟩
    rw [← hX]
    have n_o : Hid (RH w3' w.heap.size #[.string ⟨#[]⟩, .int .i64 0, .string ⟨#[]⟩, .int .i64 0, .int .i64 0, .int .i64 0] 24) := by rw [hX]; exact Lib.hid (((((((HR_o.out).set 0 (.string ⟨#[]⟩)).set 1 (.int .i64 0)).set 2 (.string ⟨#[]⟩)).set 3 (.int .i64 0)).set 4 (.int .i64 0)).set 5 (.int .i64 0))
    have HK_ : ∀ p : Addr, p.block ≠ w.heap.size → w3'.cell? p = w2'.cell? p := fun p hp => by rw [hX]; exact (cs_vr hp).trans ((cs_vr hp).trans ((cs_vr hp).trans ((cs_vr hp).trans ((cs_vr hp).trans (cs_vr hp)))))
    have n_HP : Hid (Pcs w3' pb po [a, k, c, x, y, z]) := Lib.hid (HP.out.far HR_o.out.box (show pb ≠ w.heap.size by omega) HK_)
    have nW : Hid (Below w.heap.size w w3') := by rw [hX]; exact Lib.hid (zzw (zzw (zzw (zzw (zzw (zzw (HW.out) (by omega)) (by omega)) (by omega)) (by omega)) (by omega)) (by omega))
    clear e_0 e_2 c_o_0 c_o_1 c_o_2 c_o_3 c_o_4 c_o_5 f_o_0 f_o_1 f_o_2 f_o_3 f_o_4 f_o_5
    clear hX HK_ HW HR_o HP
    have HR_o := n_o; clear n_o
    have HP := n_HP; clear n_HP
    have HW := nW; clear nW
    have c_o_0 : w3'.cell? ⟨w.heap.size, 0, none⟩ = some (.string ⟨#[]⟩) := (HR_o.out.cell 0).trans rfl
    have c_o_1 : w3'.cell? ⟨w.heap.size, 1, none⟩ = some (.int .i64 0) := (HR_o.out.cell 1).trans rfl
    have c_o_2 : w3'.cell? ⟨w.heap.size, 2, none⟩ = some (.string ⟨#[]⟩) := (HR_o.out.cell 2).trans rfl
    have c_o_3 : w3'.cell? ⟨w.heap.size, 3, none⟩ = some (.int .i64 0) := (HR_o.out.cell 3).trans rfl
    have c_o_4 : w3'.cell? ⟨w.heap.size, 4, none⟩ = some (.int .i64 0) := (HR_o.out.cell 4).trans rfl
    have c_o_5 : w3'.cell? ⟨w.heap.size, 5, none⟩ = some (.int .i64 0) := (HR_o.out.cell 5).trans rfl
    exact bodyPost_ret (v := .tuple #[.agg #[.string ⟨#[]⟩, .int .i64 0, .string ⟨#[]⟩, .int .i64 0, .int .i64 0, .int .i64 0], .bool false]) (by simp [results, Tryd.results24, go_sem, c_o_0, c_o_1, c_o_2, c_o_3, c_o_4, c_o_5]) rfl ⟨⟨⟨#[]⟩, 0, ⟨#[]⟩, 0, 0, 0⟩, _, rfl, ⟨zleM, zleM⟩, .inr ⟨HN.out, rfl⟩, HW.out⟩
   ·clear e_0 e_2
    have e_3 : w2'.cell? ⟨pb, po + 3, none⟩ = some (.string x) := HP.out 3 (by simp)
    go_wp2_with fail
    refine (mtNumber_at x HZx.out w2' (Hhe0.out.ext HW.out) (Hht0.out.ext HW.out)).mono ?_
    rintro e w3' ⟨n1, rfl, hn1, hbz⟩
    obtain ⟨o1, ho1⟩ : ∃ q9, (natO 13 x.data.toList).isSome = q9 := ⟨_, rfl⟩
    rw [ho1]
    have HN1 := Lib.hid hn1
    have HO1 := Lib.hid ho1
    clear hn1 ho1
    replace HR_o := Lib.hid (HR_o.out.ext hbz)
    replace HP := Lib.hid (HP.out.ext hbz)
    replace HW := Lib.hid (ext_trans HW.out hbz)
    clear e_3
    clear hbz
    have e_4 : w3'.cell? ⟨pb, po + 4, none⟩ = some (.string y) := HP.out 4 (by simp)
    go_wp2_with fail
    refine (mtNumber_at y HZy.out w3' (Hhe0.out.ext HW.out) (Hht0.out.ext HW.out)).mono ?_
    rintro e w4' ⟨n2, rfl, hn2, hbz⟩
    obtain ⟨o2, ho2⟩ : ∃ q9, (natO 13 y.data.toList).isSome = q9 := ⟨_, rfl⟩
    rw [ho2]
    have HN2 := Lib.hid hn2
    have HO2 := Lib.hid ho2
    clear hn2 ho2
    replace HR_o := Lib.hid (HR_o.out.ext hbz)
    replace HP := Lib.hid (HP.out.ext hbz)
    replace HW := Lib.hid (ext_trans HW.out hbz)
    clear e_4
    clear hbz
    have e_5 : w4'.cell? ⟨pb, po + 5, none⟩ = some (.string z) := HP.out 5 (by simp)
    go_wp2_with fail
    refine (mtNumber_at z HZz.out w4' (Hhe0.out.ext HW.out) (Hht0.out.ext HW.out)).mono ?_
    rintro e w5' ⟨n3, rfl, hn3, hbz⟩
    obtain ⟨o3, ho3⟩ : ∃ q9, (natO 13 z.data.toList).isSome = q9 := ⟨_, rfl⟩
    rw [ho3]
    have HN3 := Lib.hid hn3
    have HO3 := Lib.hid ho3
    clear hn3 ho3
    replace HR_o := Lib.hid (HR_o.out.ext hbz)
    replace HP := Lib.hid (HP.out.ext hbz)
    replace HW := Lib.hid (ext_trans HW.out hbz)
    clear e_5
    clear hbz
    obtain ⟨ki, hki⟩ : ∃ z, kindI k.data.toList = z := ⟨_, rfl⟩
    have HKI := Lib.hid hki
    have HIX := Lib.hid (fun v9 W9 q9 => (by have h9 := slIndex_at v9 k W9 q9; rw [hki] at h9; exact h9 : Calls Tryd.prog 36 #[v9, .string k] W9 fun e w' => e = .returned (.int .i64 ki) ∧ W9 = w'))
    clear hki
    have e_0 : w5'.cell? ⟨pb, po, none⟩ = some (.string a) := HP.out 0 (by simp)
    have e_1 : w5'.cell? ⟨pb, po + 1, none⟩ = some (.string k) := HP.out 1 (by simp)
    have e_2 : w5'.cell? ⟨pb, po + 2, none⟩ = some (.string c) := HP.out 2 (by simp)
    go_upto_region 7 with (fail)
    refine Grow.wp_region_grow 16 [TP.eq (.slice (some ⟨pb, po, none⟩) 6 cp), TP.eq (.pointer (some ⟨pb, po, none⟩)), TP.eq (.string a), TPkd, TP.eq (.slice (some ⟨pb, po, none⟩) 6 cp), TP.eq (.pointer (some ⟨pb, po + 1, none⟩)), TP.eq (.string k), TP.eq (.int .i64 (ki)), TP.eq (.slice (some ⟨pb, po, none⟩) 6 cp), TP.eq (.pointer (some ⟨pb, po + 2, none⟩)), TP.eq (.string c), TP.eq (.int .i64 (n1)), TP.eq (.int .i64 (n2)), TP.eq (.int .i64 (n3)), TP.eq (.agg #[.string a, .int .i64 (ki), .string c, .int .i64 (n1), .int .i64 (n2), .int .i64 (n3)]), TPnewR w5'.heap.size #[.string ⟨#[]⟩, .int .i64 0, .string ⟨#[]⟩, .int .i64 0, .int .i64 0, .int .i64 0] 24] [[], [0], [1], [], [], [4], [5], [3, 6], [], [8], [9], [], [], [], [2, 7, 10, 11, 12, 13], []] (by kernel_rfl) (by kernel_rfl) ⟨?o0g, ?o1g, ?o2g, ?o3g, ?o4g, ?o5g, ?o6g, ?o7g, ?o8g, ?o9g, ?o10g, ?o11g, ?o12g, ?o13g, ?o14g, ?o15g, trivial⟩ ?_
    case o0g | o4g | o8g | o11g | o12g | o13g =>
     intro w' hb
     show wpList _ _ _ _ _ _
     go_wp2
     exact ⟨rfl, Below.refl _ _, rfl⟩
    case o1g =>
     intro w' hb v1 hv1
     obtain rfl : v1 = _ := hv1
     show wpList _ _ _ _ _ _
     simp only [Grow.dstOf, zz1, zz3, zz4, Act.put, zz5, zz6, zz7]
     go_wp2
     exact ⟨rfl, Below.refl _ _, rfl⟩
    case o2g | o6g | o10g =>
     intro w' hb v1 hv1
     obtain rfl : v1 = _ := hv1
     have e_0' := zzc hb e_0
     have e_1' := zzc hb e_1
     have e_2' := zzc hb e_2
     show wpList _ _ _ _ _ _
     simp only [Grow.dstOf, zz1, zz2, zz3, zz4, Act.put, zz5, zz6, zz7]
     go_wp2
     exact ⟨rfl, Below.refl _ _, rfl⟩
    case o3g =>
     intro w' hb
     show wpList _ _ _ _ _ _
     go_wp2_with fail
     refine (kinds_at w').mono ?_
     rintro e wz ⟨vk, rfl, hkd, hbz⟩
     go_wp2
     exact ⟨hkd, hbz, rfl⟩
    case o5g | o9g =>
     intro w' hb v1 hv1
     obtain rfl : v1 = _ := hv1
     show wpList _ _ _ _ _ _
     simp only [Grow.dstOf, zz1, zz2, zz3, zz4, Act.put, zz5, zz6, zz7]
     go_wp2
     exact ⟨rfl, Below.refl _ _, rfl⟩
    case o7g =>
     intro w' hb v1 hv1 v2 hv2
     have hv1' : KdV w' v1 := hv1
     clear hv1
     obtain rfl : v2 = _ := hv2
     show wpList _ _ _ _ _ _
     simp only [Grow.dstOf, zz1, zz2, zz3, zz4, Act.put, zz5, zz6, zz7]
     go_wp2_with fail
     refine (HIX.out v1 w' hv1').mono ?_
     rintro e wz ⟨rfl, rfl⟩
     go_wp2
     exact ⟨rfl, Below.refl _ _, rfl⟩
    case o14g =>
     intro w' hb v1 hv1 v2 hv2 v3 hv3 v4 hv4 v5 hv5 v6 hv6
     obtain rfl : v1 = _ := hv1
     obtain rfl : v2 = _ := hv2
     obtain rfl : v3 = _ := hv3
     obtain rfl : v4 = _ := hv4
     obtain rfl : v5 = _ := hv5
     obtain rfl : v6 = _ := hv6
     show wpList _ _ _ _ _ _
     simp only [Grow.dstOf, zz1, zz2, zz3, zz4, Act.put, zz5, zz6, zz7]
     go_wp2
     exact ⟨rfl, Below.refl _ _, rfl⟩
    case o15g =>
     intro w' hb
     show wpList _ _ _ _ _ _
     go_wp2
     exact ⟨⟨_, rfl, hb.size, RH.new _ _ _⟩, ext_alloc _ _, rfl⟩
    intro w6' hbz u0 hu0 u1 hu1 u2 hu2 u3 hu3 u4 hu4 u5 hu5 u6 hu6 u7 hu7 u8 hu8 u9 hu9 u10 hu10 u11 hu11 u12 hu12 u13 hu13 u14 hu14 u15 hu15
    obtain rfl : u14 = _ := hu14
    have hg9 : ∃ g, u15 = .pointer (some ⟨g, 0, none⟩) ∧ w5'.heap.size ≤ g ∧ RH w6' g #[.string ⟨#[]⟩, .int .i64 0, .string ⟨#[]⟩, .int .i64 0, .int .i64 0, .int .i64 0] 24 := hu15
    clear hu0 hu1 hu2 hu3 hu4 hu5 hu6 hu7 hu8 hu9 hu10 hu11 hu12 hu13 hu15
    obtain ⟨b_e, rfl, hgU, hRU⟩ := hg9
    have lt_o_e : w.heap.size < b_e := Nat.lt_of_lt_of_le HR_o.out.lt hgU
    have le_e : w.heap.size ≤ b_e := Nat.le_trans HW.out.size hgU
    have ltp_e : pb < b_e := Nat.lt_of_lt_of_le (HP.out.lt (by simp)) hgU
    clear hgU
    replace HR_o := Lib.hid (HR_o.out.ext hbz)
    replace HP := Lib.hid (HP.out.ext hbz)
    replace HW := Lib.hid (ext_trans HW.out hbz)
    clear e_0 e_1 e_2
    clear hbz
    have HR_e : Hid (RH w6' b_e #[.string ⟨#[]⟩, .int .i64 0, .string ⟨#[]⟩, .int .i64 0, .int .i64 0, .int .i64 0] 24) := Lib.hid hRU
    clear hRU
    show wpList _ _ _ _ _ _
    simp only [Act.put, zz5, zz6, zz7]
    have c_e_0 : w6'.cell? ⟨b_e, 0, none⟩ = some (.string ⟨#[]⟩) := (HR_e.out.cell 0).trans rfl
    have c_e_1 : w6'.cell? ⟨b_e, 1, none⟩ = some (.int .i64 0) := (HR_e.out.cell 1).trans rfl
    have c_e_2 : w6'.cell? ⟨b_e, 2, none⟩ = some (.string ⟨#[]⟩) := (HR_e.out.cell 2).trans rfl
    have c_e_3 : w6'.cell? ⟨b_e, 3, none⟩ = some (.int .i64 0) := (HR_e.out.cell 3).trans rfl
    have c_e_4 : w6'.cell? ⟨b_e, 4, none⟩ = some (.int .i64 0) := (HR_e.out.cell 4).trans rfl
    have c_e_5 : w6'.cell? ⟨b_e, 5, none⟩ = some (.int .i64 0) := (HR_e.out.cell 5).trans rfl
    have f_e_0 := HR_e.out.fre 0
    have f_e_1 := HR_e.out.fre 1
    have f_e_2 := HR_e.out.fre 2
    have f_e_3 := HR_e.out.fre 3
    have f_e_4 := HR_e.out.fre 4
    have f_e_5 := HR_e.out.fre 5
    go_upto_region 8 with (fail)
    obtain ⟨w7', hX⟩ : ∃ Z9, Z9 = ((((((w6'.setCell ⟨b_e, 0, none⟩ (.string a)).setCell ⟨b_e, 1, none⟩ (.int .i64 (ki))).setCell ⟨b_e, 2, none⟩ (.string c)).setCell ⟨b_e, 3, none⟩ (.int .i64 (n1))).setCell ⟨b_e, 4, none⟩ (.int .i64 (n2))).setCell ⟨b_e, 5, none⟩ (.int .i64 (n3))) := ⟨_, rfl⟩
    rw [← hX]
    have n_e : Hid (RH w7' b_e #[.string a, .int .i64 (ki), .string c, .int .i64 (n1), .int .i64 (n2), .int .i64 (n3)] 24) := by rw [hX]; exact Lib.hid (((((((HR_e.out).set 0 (.string a)).set 1 (.int .i64 (ki))).set 2 (.string c)).set 3 (.int .i64 (n1))).set 4 (.int .i64 (n2))).set 5 (.int .i64 (n3)))
    have n_o : Hid (RH w7' w.heap.size #[.string ⟨#[]⟩, .int .i64 0, .string ⟨#[]⟩, .int .i64 0, .int .i64 0, .int .i64 0] 24) := by rw [hX]; exact Lib.hid (zzo (zzo (zzo (zzo (zzo (zzo (HR_o.out) (by omega)) (by omega)) (by omega)) (by omega)) (by omega)) (by omega))
    have HK_ : ∀ p : Addr, p.block ≠ b_e → w7'.cell? p = w6'.cell? p := fun p hp => by rw [hX]; exact (cs_vr hp).trans ((cs_vr hp).trans ((cs_vr hp).trans ((cs_vr hp).trans ((cs_vr hp).trans (cs_vr hp)))))
    have n_HP : Hid (Pcs w7' pb po [a, k, c, x, y, z]) := Lib.hid (HP.out.far HR_e.out.box (show pb ≠ b_e by omega) HK_)
    have nW : Hid (Below w.heap.size w w7') := by rw [hX]; exact Lib.hid (zzw (zzw (zzw (zzw (zzw (zzw (HW.out) (by omega)) (by omega)) (by omega)) (by omega)) (by omega)) (by omega))
    clear c_e_0 c_e_1 c_e_2 c_e_3 c_e_4 c_e_5 f_e_0 f_e_1 f_e_2 f_e_3 f_e_4 f_e_5
    clear hX HK_ HW HR_o HR_e HP
    have HR_o := n_o; clear n_o
    have HR_e := n_e; clear n_e
    have HP := n_HP; clear n_HP
    have HW := nW; clear nW
    obtain ⟨b2, hb2⟩ : ∃ z, (o1 && o2) = z := ⟨_, rfl⟩
    obtain ⟨b3, hb3⟩ : ∃ z, (b2 && o3) = z := ⟨_, rfl⟩
    obtain ⟨kb, hkb⟩ : ∃ z, decide (0 < ki) = z := ⟨_, rfl⟩
    obtain ⟨bb, hbb⟩ : ∃ z, (b3 && kb) = z := ⟨_, rfl⟩
    have HB2 := Lib.hid hb2
    have HB3 := Lib.hid hb3
    have HKB := Lib.hid hkb
    have HBB := Lib.hid hbb
    clear hb2 hb3 hkb hbb
    obtain ⟨w8', hZ0⟩ : ∃ Z9, Z9 = w7'.drew := ⟨_, rfl⟩
    have r0_o : Hid (RH w8' w.heap.size #[.string ⟨#[]⟩, .int .i64 0, .string ⟨#[]⟩, .int .i64 0, .int .i64 0, .int .i64 0] 24) := by rw [hZ0]; exact HR_o
    have r0_e : Hid (RH w8' b_e #[.string a, .int .i64 (ki), .string c, .int .i64 (n1), .int .i64 (n2), .int .i64 (n3)] 24) := by rw [hZ0]; exact HR_e
    have x0_HP : Hid (Pcs w8' pb po [a, k, c, x, y, z]) := by rw [hZ0]; exact HP
    have HW0 : Hid (Below w.heap.size w w8') := by rw [hZ0]; have h9 := HW.out; exact Lib.hid ⟨h9.1, h9.2, h9.3, h9.4, h9.5⟩
    obtain ⟨w9', hZ1⟩ : ∃ Z9, Z9 = ((((((w8'.setCell ⟨w.heap.size, 0, none⟩ (.string a)).setCell ⟨w.heap.size, 1, none⟩ (.int .i64 (ki))).setCell ⟨w.heap.size, 2, none⟩ (.string c)).setCell ⟨w.heap.size, 3, none⟩ (.int .i64 (n1))).setCell ⟨w.heap.size, 4, none⟩ (.int .i64 (n2))).setCell ⟨w.heap.size, 5, none⟩ (.int .i64 (n3))) := ⟨_, rfl⟩
    have r1_o : Hid (RH w9' w.heap.size #[.string a, .int .i64 (ki), .string c, .int .i64 (n1), .int .i64 (n2), .int .i64 (n3)] 24) := by rw [hZ1]; exact Lib.hid (((((((r0_o.out).set 0 (.string a)).set 1 (.int .i64 (ki))).set 2 (.string c)).set 3 (.int .i64 (n1))).set 4 (.int .i64 (n2))).set 5 (.int .i64 (n3)))
    have r1_e : Hid (RH w9' b_e #[.string a, .int .i64 (ki), .string c, .int .i64 (n1), .int .i64 (n2), .int .i64 (n3)] 24) := by rw [hZ1]; exact Lib.hid (zzo (zzo (zzo (zzo (zzo (zzo (r0_e.out) (by omega)) (by omega)) (by omega)) (by omega)) (by omega)) (by omega))
    have HK_ : ∀ p : Addr, p.block ≠ w.heap.size → w9'.cell? p = w8'.cell? p := fun p hp => by rw [hZ1]; exact (cs_vr hp).trans ((cs_vr hp).trans ((cs_vr hp).trans ((cs_vr hp).trans ((cs_vr hp).trans (cs_vr hp)))))
    have x1_HP : Hid (Pcs w9' pb po [a, k, c, x, y, z]) := Lib.hid (x0_HP.out.far r0_o.out.box (show pb ≠ w.heap.size by omega) HK_)
    clear HK_
    have HW1 : Hid (Below w.heap.size w w9') := by rw [hZ1]; exact Lib.hid (zzw (zzw (zzw (zzw (zzw (zzw (HW0.out) (by omega)) (by omega)) (by omega)) (by omega)) (by omega)) (by omega))
    have HCZ : ∀ k9, k9 ≤ 1 → (fun w' : World => w'.cell? ⟨b_e, 0, none⟩ = some (.string a) ∧ w'.cell? ⟨b_e, 1, none⟩ = some (.int .i64 (ki)) ∧ w'.cell? ⟨b_e, 2, none⟩ = some (.string c) ∧ w'.cell? ⟨b_e, 3, none⟩ = some (.int .i64 (n1)) ∧ w'.cell? ⟨b_e, 4, none⟩ = some (.int .i64 (n2)) ∧ w'.cell? ⟨b_e, 5, none⟩ = some (.int .i64 (n3))) ([w8', w9'].getD k9 w7') := fun k9 hk9 => by
     match k9, hk9 with
     | 0, _ => exact ⟨(r0_e.out.cell 0).trans rfl, (r0_e.out.cell 1).trans rfl, (r0_e.out.cell 2).trans rfl, (r0_e.out.cell 3).trans rfl, (r0_e.out.cell 4).trans rfl, (r0_e.out.cell 5).trans rfl⟩
     | 1, _ => exact ⟨(r1_e.out.cell 0).trans rfl, (r1_e.out.cell 1).trans rfl, (r1_e.out.cell 2).trans rfl, (r1_e.out.cell 3).trans rfl, (r1_e.out.cell 4).trans rfl, (r1_e.out.cell 5).trans rfl⟩
     | k9 + 2, h => omega
    have HZ0 := Lib.hid hZ0
    have HZ1 := Lib.hid hZ1
    clear hZ0 hZ1
    refine Grow.wp_region_stores 15 1 [w8', w9'] (fun w' => w'.cell? ⟨b_e, 0, none⟩ = some (.string a) ∧ w'.cell? ⟨b_e, 1, none⟩ = some (.int .i64 (ki)) ∧ w'.cell? ⟨b_e, 2, none⟩ = some (.string c) ∧ w'.cell? ⟨b_e, 3, none⟩ = some (.int .i64 (n1)) ∧ w'.cell? ⟨b_e, 4, none⟩ = some (.int .i64 (n2)) ∧ w'.cell? ⟨b_e, 5, none⟩ = some (.int .i64 (n3))) [fun v => v = .agg #[.string a, .int .i64 (ki), .string c, .int .i64 (n1), .int .i64 (n2), .int .i64 (n3)], fun v => v = .bool o1, fun v => v = .bool o1, fun v => o1 = true → v = .bool o2, fun v => v = .bool b2, fun v => v = .bool b2, fun v => b2 = true → v = .bool o3, fun v => v = .bool b3, fun v => v = .bool b3, fun v => b3 = true → v = .pointer (some ⟨b_e, 1, none⟩), fun v => b3 = true → v = .int .i64 (ki), fun v => b3 = true → v = .bool kb, fun v => v = .bool bb, fun _ => True, fun v => v = .bool bb] [[], [], [1], [2], [2, 3], [4], [5], [5, 6], [7], [8], [9, 8], [10, 8], [8, 11], [0], [12]] [none, none, none, none, none, none, none, none, none, none, none, none, none, some 0, none] (by kernel_rfl) (by kernel_rfl) HZ0.out HCZ ⟨?s0f, ?s1f, ?s2f, ?s3f, ?s4f, ?s5f, ?s6f, ?s7f, ?s8f, ?s9f, ?s10f, ?s11f, ?s12f, ?s13f, ?s14f, trivial⟩ ?_
    all_goals clear HCZ
    case s0f =>
     intro w' hC 
     obtain ⟨ce0, ce1, ce2, ce3, ce4, ce5⟩ := hC
     show wpList _ _ _ _ _ _
     go_wp2
     exact ⟨rfl, rfl, rfl⟩
    case s1f =>
     intro w' hC 
     show wpList _ _ _ _ _ _
     go_wp2
     exact ⟨rfl, rfl, rfl⟩
    case s2f =>
     intro w' hC v1 hv1
     obtain rfl : v1 = _ := hv1
     show wpList _ _ _ _ _ _
     simp only [Grow.dstOf, zz1, zz2, zz3, zz4, Act.put, zz5, zz6, zz7]
     go_wp2
     exact ⟨rfl, rfl, rfl⟩
    case s3f =>
     intro w' hC v1 hv1
     obtain rfl : v1 = _ := hv1
     cases o1
     ·show wpList _ _ _ _ _ _
      simp only [Grow.dstOf, zz1, zz2, zz3, zz4, Act.put, zz5, zz6, zz7]
      go_wp2
      first | exact ⟨trivial, rfl, rfl⟩ | exact ⟨fun h => (by cases h), rfl, rfl⟩
     ·show wpList _ _ _ _ _ _
      simp only [Grow.dstOf, zz1, zz2, zz3, zz4, Act.put, zz5, zz6, zz7]
      go_wp2
      first | exact ⟨rfl, rfl, rfl⟩ | exact ⟨fun _ => rfl, rfl, rfl⟩
    case s4f =>
     intro w' hC v1 hv1 v2 hv2
     obtain rfl : v1 = _ := hv1
     have hv2' : (fun v => o1 = true → v = .bool o2) v2 := hv2
     cases o1
     ·show wpList _ _ _ _ _ _
      simp only [Grow.dstOf, zz1, zz2, zz3, zz4, Act.put, zz5, zz6, zz7]
      go_wp2
      exact ⟨by rw [← HB2.out]; rfl, rfl, rfl⟩
     ·show wpList _ _ _ _ _ _
      simp only [Grow.dstOf, zz1, zz2, zz3, zz4, Act.put, zz5, zz6, zz7]
      obtain rfl : v2 = _ := hv2' rfl
      go_wp2
      exact ⟨by rw [← HB2.out]; rfl, rfl, rfl⟩
    case s5f =>
     intro w' hC v1 hv1
     obtain rfl : v1 = _ := hv1
     show wpList _ _ _ _ _ _
     simp only [Grow.dstOf, zz1, zz2, zz3, zz4, Act.put, zz5, zz6, zz7]
     go_wp2
     exact ⟨rfl, rfl, rfl⟩
    case s6f =>
     intro w' hC v1 hv1
     obtain rfl : v1 = _ := hv1
     cases b2
     ·show wpList _ _ _ _ _ _
      simp only [Grow.dstOf, zz1, zz2, zz3, zz4, Act.put, zz5, zz6, zz7]
      go_wp2
      first | exact ⟨trivial, rfl, rfl⟩ | exact ⟨fun h => (by cases h), rfl, rfl⟩
     ·show wpList _ _ _ _ _ _
      simp only [Grow.dstOf, zz1, zz2, zz3, zz4, Act.put, zz5, zz6, zz7]
      go_wp2
      first | exact ⟨rfl, rfl, rfl⟩ | exact ⟨fun _ => rfl, rfl, rfl⟩
    case s7f =>
     intro w' hC v1 hv1 v2 hv2
     obtain rfl : v1 = _ := hv1
     have hv2' : (fun v => b2 = true → v = .bool o3) v2 := hv2
     cases b2
     ·show wpList _ _ _ _ _ _
      simp only [Grow.dstOf, zz1, zz2, zz3, zz4, Act.put, zz5, zz6, zz7]
      go_wp2
      exact ⟨by rw [← HB3.out]; rfl, rfl, rfl⟩
     ·show wpList _ _ _ _ _ _
      simp only [Grow.dstOf, zz1, zz2, zz3, zz4, Act.put, zz5, zz6, zz7]
      obtain rfl : v2 = _ := hv2' rfl
      go_wp2
      exact ⟨by rw [← HB3.out]; rfl, rfl, rfl⟩
    case s8f =>
     intro w' hC v1 hv1
     obtain rfl : v1 = _ := hv1
     show wpList _ _ _ _ _ _
     simp only [Grow.dstOf, zz1, zz2, zz3, zz4, Act.put, zz5, zz6, zz7]
     go_wp2
     exact ⟨rfl, rfl, rfl⟩
    case s9f =>
     intro w' hC v1 hv1
     obtain rfl : v1 = _ := hv1
     cases b3
     ·show wpList _ _ _ _ _ _
      simp only [Grow.dstOf, zz1, zz2, zz3, zz4, Act.put, zz5, zz6, zz7]
      go_wp2
      first | exact ⟨trivial, rfl, rfl⟩ | exact ⟨fun h => (by cases h), rfl, rfl⟩
     ·show wpList _ _ _ _ _ _
      simp only [Grow.dstOf, zz1, zz2, zz3, zz4, Act.put, zz5, zz6, zz7]
      go_wp2
      first | exact ⟨rfl, rfl, rfl⟩ | exact ⟨fun _ => rfl, rfl, rfl⟩
    case s10f =>
     intro w' hC v1 hv1 v2 hv2
     have hv1' : (fun v => b3 = true → v = .pointer (some ⟨b_e, 1, none⟩)) v1 := hv1
     obtain rfl : v2 = _ := hv2
     obtain ⟨-, ce1, -, -, -, -⟩ := hC
     cases b3
     ·show wpList _ _ _ _ _ _
      simp only [Grow.dstOf, zz1, zz2, zz3, zz4, Act.put, zz5, zz6, zz7]
      go_wp2
      first | exact ⟨trivial, rfl, rfl⟩ | exact ⟨fun h => (by cases h), rfl, rfl⟩
     ·show wpList _ _ _ _ _ _
      simp only [Grow.dstOf, zz1, zz2, zz3, zz4, Act.put, zz5, zz6, zz7]
      obtain rfl : v1 = _ := hv1' rfl
      go_wp2
      first | exact ⟨rfl, rfl, rfl⟩ | exact ⟨fun _ => rfl, rfl, rfl⟩
    case s11f =>
     intro w' hC v1 hv1 v2 hv2
     have hv1' : (fun v => b3 = true → v = .int .i64 (ki)) v1 := hv1
     obtain rfl : v2 = _ := hv2
     cases b3
     ·show wpList _ _ _ _ _ _
      simp only [Grow.dstOf, zz1, zz2, zz3, zz4, Act.put, zz5, zz6, zz7]
      go_wp2
      first | exact ⟨trivial, rfl, rfl⟩ | exact ⟨fun h => (by cases h), rfl, rfl⟩
     ·show wpList _ _ _ _ _ _
      simp only [Grow.dstOf, zz1, zz2, zz3, zz4, Act.put, zz5, zz6, zz7]
      obtain rfl : v1 = _ := hv1' rfl
      go_wp2
      first | exact ⟨(show Value.bool (decide (0 < ki)) = Value.bool kb by rw [HKB.out]), rfl, rfl⟩ | exact ⟨fun _ => (show Value.bool (decide (0 < ki)) = Value.bool kb by rw [HKB.out]), rfl, rfl⟩
    case s12f =>
     intro w' hC v1 hv1 v2 hv2
     obtain rfl : v1 = _ := hv1
     have hv2' : (fun v => b3 = true → v = .bool kb) v2 := hv2
     cases b3
     ·show wpList _ _ _ _ _ _
      simp only [Grow.dstOf, zz1, zz2, zz3, zz4, Act.put, zz5, zz6, zz7]
      go_wp2
      exact ⟨by rw [← HBB.out]; rfl, rfl, rfl⟩
     ·show wpList _ _ _ _ _ _
      simp only [Grow.dstOf, zz1, zz2, zz3, zz4, Act.put, zz5, zz6, zz7]
      obtain rfl : v2 = _ := hv2' rfl
      go_wp2
      exact ⟨by rw [← HBB.out]; rfl, rfl, rfl⟩
    case s13f =>
     intro v1 hv1
     obtain rfl : v1 = _ := hv1
     have g0 : w8'.cell? ⟨w.heap.size, 0, none⟩ = some (.string ⟨#[]⟩) := (r0_o.out.cell 0).trans rfl
     have f0 := r0_o.out.fre 0
     have g1 : w8'.cell? ⟨w.heap.size, 1, none⟩ = some (.int .i64 0) := (r0_o.out.cell 1).trans rfl
     have f1 := r0_o.out.fre 1
     have g2 : w8'.cell? ⟨w.heap.size, 2, none⟩ = some (.string ⟨#[]⟩) := (r0_o.out.cell 2).trans rfl
     have f2 := r0_o.out.fre 2
     have g3 : w8'.cell? ⟨w.heap.size, 3, none⟩ = some (.int .i64 0) := (r0_o.out.cell 3).trans rfl
     have f3 := r0_o.out.fre 3
     have g4 : w8'.cell? ⟨w.heap.size, 4, none⟩ = some (.int .i64 0) := (r0_o.out.cell 4).trans rfl
     have f4 := r0_o.out.fre 4
     have g5 : w8'.cell? ⟨w.heap.size, 5, none⟩ = some (.int .i64 0) := (r0_o.out.cell 5).trans rfl
     have f5 := r0_o.out.fre 5
     show wpList _ _ _ _ _ w8'
     simp only [Grow.dstOf, zz1, zz3, zz4, Act.put, zz5, zz6, zz7]
     go_wp2
     exact ⟨trivial, HZ1.out.symm, rfl⟩
    case s14f =>
     intro w' hC v1 hv1
     obtain rfl : v1 = _ := hv1
     show wpList _ _ _ _ _ _
     simp only [Grow.dstOf, zz1, zz2, zz3, zz4, Act.put, zz5, zz6, zz7]
     go_wp2
     exact ⟨rfl, rfl, rfl⟩
    intro u0 hu0 u1 hu1 u2 hu2 u3 hu3 u4 hu4 u5 hu5 u6 hu6 u7 hu7 u8 hu8 u9 hu9 u10 hu10 u11 hu11 u12 hu12 u13 hu13 u14 hu14
    obtain rfl : u14 = _ := hu14 rfl
    refine Grow.TailV.fin w9' rfl ?_
    simp only [Act.put, zz5, zz6, zz7]
    replace HW := HW1
    clear HW0 HW1
    replace HR_o := r1_o
    clear r0_o r1_o
    replace HR_e := r1_e
    clear r0_e r1_e
    replace HP := x1_HP
    clear x0_HP x1_HP
    clear hu0 hu1 hu2 hu3 hu4 hu5 hu6 hu7 hu8 hu9 hu10 hu11 hu12 hu13 HZ0 HZ1
    have HN : Hid ((readM s.data.toList = some ⟨a, ki, c, n1, n2, n3⟩ ∧ bb = true) ∨ (readM s.data.toList = none ∧ bb = false)) := Lib.hid (by
     rw [HRD'.out, ← HBB.out, ← HB3.out, ← HB2.out, ← HKB.out]
     cases o1 with
     | false => exact .inr ⟨readM6_no (.inr (.inr (.inl (nat_none HO1.out)))), rfl⟩
     | true =>
      cases o2 with
      | false => exact .inr ⟨readM6_no (.inr (.inr (.inr (.inl (nat_none HO2.out))))), rfl⟩
      | true =>
       cases o3 with
       | false => exact .inr ⟨readM6_no (.inr (.inr (.inr (.inr (.inl (nat_none HO3.out)))))), rfl⟩
       | true =>
        by_cases hk : 0 < ki
        ·exact .inl ⟨by rw [readM6_yes (nat_get HO1.out HN1.out) (nat_get HO2.out HN2.out) (nat_get HO3.out HN3.out) HWa.out HWe.out (by rw [HKI.out]; exact hk), bm_data, bm_data, HKI.out], by simp [hk]⟩
        ·exact .inr ⟨readM6_no (.inr (.inr (.inr (.inr (.inr (by rw [HKI.out]; exact hk)))))), by simp [hk]⟩)
    have c_o_0 : w9'.cell? ⟨w.heap.size, 0, none⟩ = some (.string a) := (HR_o.out.cell 0).trans rfl
    have c_o_1 : w9'.cell? ⟨w.heap.size, 1, none⟩ = some (.int .i64 (ki)) := (HR_o.out.cell 1).trans rfl
    have c_o_2 : w9'.cell? ⟨w.heap.size, 2, none⟩ = some (.string c) := (HR_o.out.cell 2).trans rfl
    have c_o_3 : w9'.cell? ⟨w.heap.size, 3, none⟩ = some (.int .i64 (n1)) := (HR_o.out.cell 3).trans rfl
    have c_o_4 : w9'.cell? ⟨w.heap.size, 4, none⟩ = some (.int .i64 (n2)) := (HR_o.out.cell 4).trans rfl
    have c_o_5 : w9'.cell? ⟨w.heap.size, 5, none⟩ = some (.int .i64 (n3)) := (HR_o.out.cell 5).trans rfl
    go_wp2
    exact bodyPost_ret (v := .tuple #[.agg #[.string a, .int .i64 (ki), .string c, .int .i64 (n1), .int .i64 (n2), .int .i64 (n3)], .bool bb]) (by simp [results, Tryd.results24, go_sem, c_o_0, c_o_1, c_o_2, c_o_3, c_o_4, c_o_5]) rfl ⟨⟨a, ki, c, n1, n2, n3⟩, _, rfl, ⟨Nat.le_trans HZa.out (by decide), Nat.le_trans HZc.out (by decide)⟩, HN.out, HW.out⟩
 ·have HN : Hid (readM s.data.toList = none) := Lib.hid (HRD.out.trans (readMW_len (by rw [List.length_map, hn]; exact h6)))
  have h6' : ((n : Int) != 6) = true := by simp; omega
  clear h6 hn HSL
  have c_o_0 : w2'.cell? ⟨w.heap.size, 0, none⟩ = some (.string ⟨#[]⟩) := (HR_o.out.cell 0).trans rfl
  have c_o_1 : w2'.cell? ⟨w.heap.size, 1, none⟩ = some (.int .i64 0) := (HR_o.out.cell 1).trans rfl
  have c_o_2 : w2'.cell? ⟨w.heap.size, 2, none⟩ = some (.string ⟨#[]⟩) := (HR_o.out.cell 2).trans rfl
  have c_o_3 : w2'.cell? ⟨w.heap.size, 3, none⟩ = some (.int .i64 0) := (HR_o.out.cell 3).trans rfl
  have c_o_4 : w2'.cell? ⟨w.heap.size, 4, none⟩ = some (.int .i64 0) := (HR_o.out.cell 4).trans rfl
  have c_o_5 : w2'.cell? ⟨w.heap.size, 5, none⟩ = some (.int .i64 0) := (HR_o.out.cell 5).trans rfl
  have f_o_0 := HR_o.out.fre 0
  have f_o_1 := HR_o.out.fre 1
  have f_o_2 := HR_o.out.fre 2
  have f_o_3 := HR_o.out.fre 3
  have f_o_4 := HR_o.out.fre 4
  have f_o_5 := HR_o.out.fre 5
  go_wp2
  obtain ⟨w3', hX⟩ : ∃ Z9, Z9 = ((((((w2'.setCell ⟨w.heap.size, 0, none⟩ (.string ⟨#[]⟩)).setCell ⟨w.heap.size, 1, none⟩ (.int .i64 0)).setCell ⟨w.heap.size, 2, none⟩ (.string ⟨#[]⟩)).setCell ⟨w.heap.size, 3, none⟩ (.int .i64 0)).setCell ⟨w.heap.size, 4, none⟩ (.int .i64 0)).setCell ⟨w.heap.size, 5, none⟩ (.int .i64 0)) := ⟨_, rfl⟩
  rw [← hX]
  have n_o : Hid (RH w3' w.heap.size #[.string ⟨#[]⟩, .int .i64 0, .string ⟨#[]⟩, .int .i64 0, .int .i64 0, .int .i64 0] 24) := by rw [hX]; exact Lib.hid (((((((HR_o.out).set 0 (.string ⟨#[]⟩)).set 1 (.int .i64 0)).set 2 (.string ⟨#[]⟩)).set 3 (.int .i64 0)).set 4 (.int .i64 0)).set 5 (.int .i64 0))
  have HK_ : ∀ p : Addr, p.block ≠ w.heap.size → w3'.cell? p = w2'.cell? p := fun p hp => by rw [hX]; exact (cs_vr hp).trans ((cs_vr hp).trans ((cs_vr hp).trans ((cs_vr hp).trans ((cs_vr hp).trans (cs_vr hp)))))
  have nW : Hid (Below w.heap.size w w3') := by rw [hX]; exact Lib.hid (zzw (zzw (zzw (zzw (zzw (zzw (HW.out) (by omega)) (by omega)) (by omega)) (by omega)) (by omega)) (by omega))
  clear c_o_0 c_o_1 c_o_2 c_o_3 c_o_4 c_o_5 f_o_0 f_o_1 f_o_2 f_o_3 f_o_4 f_o_5
  clear hX HK_ HW HR_o 
  have HR_o := n_o; clear n_o
  have HW := nW; clear nW
  have c_o_0 : w3'.cell? ⟨w.heap.size, 0, none⟩ = some (.string ⟨#[]⟩) := (HR_o.out.cell 0).trans rfl
  have c_o_1 : w3'.cell? ⟨w.heap.size, 1, none⟩ = some (.int .i64 0) := (HR_o.out.cell 1).trans rfl
  have c_o_2 : w3'.cell? ⟨w.heap.size, 2, none⟩ = some (.string ⟨#[]⟩) := (HR_o.out.cell 2).trans rfl
  have c_o_3 : w3'.cell? ⟨w.heap.size, 3, none⟩ = some (.int .i64 0) := (HR_o.out.cell 3).trans rfl
  have c_o_4 : w3'.cell? ⟨w.heap.size, 4, none⟩ = some (.int .i64 0) := (HR_o.out.cell 4).trans rfl
  have c_o_5 : w3'.cell? ⟨w.heap.size, 5, none⟩ = some (.int .i64 0) := (HR_o.out.cell 5).trans rfl
  exact bodyPost_ret (v := .tuple #[.agg #[.string ⟨#[]⟩, .int .i64 0, .string ⟨#[]⟩, .int .i64 0, .int .i64 0, .int .i64 0], .bool false]) (by simp [results, Tryd.results24, go_sem, c_o_0, c_o_1, c_o_2, c_o_3, c_o_4, c_o_5]) rfl ⟨⟨⟨#[]⟩, 0, ⟨#[]⟩, 0, 0, 0⟩, _, rfl, ⟨zleM, zleM⟩, .inr ⟨HN.out, rfl⟩, HW.out⟩
end Tx
end Go.Proofs.YteaaibpanocgaaaDoor
