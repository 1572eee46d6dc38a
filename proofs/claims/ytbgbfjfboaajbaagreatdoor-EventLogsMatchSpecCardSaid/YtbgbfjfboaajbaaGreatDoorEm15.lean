/- read of package event. Printed by gen_evr.py. -/
import Derived.Test.YtbgbfjfboaajbaaGreatDoorEm05
import Derived.Test.YtbgbfjfboaajbaaGreatDoorEm13
import Derived.Test.YtbgbfjfboaajbaaGreatDoorEm14
namespace Go.Proofs.YtbgbfjfboaajbaaGreatDoor
open Go.RowKit
namespace Tx
open _root_.Go.Proofs.YtbgbfjfboaajbaaGreatDoor.Nm
open _root_.Go.Proofs.YtbgbfjfboaajbaaGreatDoor.Nt (RH RH.cell RH.box RH.lt RH.new RH.ext RH.fre RH.set RH.other)
set_option maxRecDepth 100000 in
set_option maxHeartbeats 16000000 in
theorem evread_at (s : ByteArray) (hs : s.size ≤ 4194304) (w : World) (he : Er w) (ht : Tb w) (hm : Ml w) : Calls Tryz.prog 23 #[.string s] w (RdE s.data.toList w) := by
 have HS0 := Lib.hid hs
 have HE0 := Lib.hid he
 have HT0 := Lib.hid ht
 have HML := Lib.hid hm
 clear hs he ht hm
 go_enter Tryz.func23, Tryz.ntmps23
 go_upto_region 1 with (fail)
 refine wp_vr1 fun w1' hbz hR0 => ?_
 have HR_o : Hid (RH w1' w.heap.size #[.string ⟨#[]⟩, .int .i64 0, .int .i64 0, .int .i64 0, .string ⟨#[]⟩, .string ⟨#[]⟩, .int .i64 0, .int .i64 0] 31) := Lib.hid hR0
 have HW := Lib.hid hbz
 clear hbz hR0
 go_wp2_with fail
 refine (split_at s 32 (by have := HS0.out; omega) w1' (HML.out.ext HW.out)).mono ?_
 rintro e w2' ⟨ap, cp, rfl, hsl, hbz⟩
 obtain ⟨P, hP⟩ : ∃ P, (cutL 32 s.data.toList).map stB = P := ⟨_, rfl⟩
 rw [hP] at hsl ⊢
 have HSL : Hid (SlS w2' ap P cp) := Lib.hid hsl
 clear hsl
 replace HR_o := Lib.hid (HR_o.out.ext hbz)
 replace HW := Lib.hid (ext_trans HW.out hbz)
 clear hbz
 have HPZ : Hid (∀ u ∈ P, u.size ≤ 4194304) := Lib.hid (by
  rw [← hP]
  intro u hu
  obtain ⟨x, hx, rfl⟩ := List.mem_map.1 hu
  have h9 := cutL_len x hx
  have h8 := HS0.out
  have h7 : s.data.toList.length = s.size := Array.length_toList
  rw [stB_size]; omega)
 have HRD : Hid (readO s.data.toList = readW (P.map (·.data.toList))) := Lib.hid (by rw [← hP, List.map_map]; show readW (cutL 32 s.data.toList) = _; congr 1; exact (List.map_id _).symm)
 clear hP
 obtain ⟨n, hn⟩ : ∃ z, P.length = z := ⟨_, rfl⟩
 rw [hn]
 by_cases h4 : n = 4
 ·subst h4
  obtain ⟨a, b, c, d, rfl⟩ : ∃ a b c d, P = [a, b, c, d] := by
   match P, hn with
   | [a, b, c, d], _ => exact ⟨a, b, c, d, rfl⟩
  clear hn
  obtain ⟨pb, po, rfl, hpc⟩ := SlS.pcs HSL.out (by simp)
  have HP : Hid (Pcs w2' pb po [a, b, c, d]) := Lib.hid hpc
  have npo : pb ≠ w.heap.size := Pcs.ne hpc (by simp) HR_o.out.box
  clear hpc HSL
  have HZa : Hid (a.size ≤ 4194304) := Lib.hid (HPZ.out a (by simp))
  have HZb : Hid (b.size ≤ 4194304) := Lib.hid (HPZ.out b (by simp))
  have HZc : Hid (c.size ≤ 4194304) := Lib.hid (HPZ.out c (by simp))
  have HZd : Hid (d.size ≤ 4194304) := Lib.hid (HPZ.out d (by simp))
  clear HPZ
  have HRD' : Hid (readO s.data.toList = read4 a.data.toList b.data.toList c.data.toList d.data.toList) := HRD
  clear HRD
  have e_1 : w2'.cell? ⟨pb, po + 1, none⟩ = some (.string b) := HP.out 1 (by simp)
  go_wp2_with fail
  refine (evNumber_at b HZb.out w2' (HE0.out.ext HW.out) (HT0.out.ext HW.out)).mono ?_
  rintro e w3' ⟨n1, rfl, hn1, hbz⟩
  obtain ⟨o1, ho1⟩ : ∃ q9, (numO b.data.toList).isSome = q9 := ⟨_, rfl⟩
  rw [ho1]
  have HN1 := Lib.hid hn1
  have HO1 := Lib.hid ho1
  clear hn1 ho1
  replace HR_o := Lib.hid (HR_o.out.ext hbz)
  replace HP := Lib.hid (HP.out.ext hbz)
  replace HW := Lib.hid (ext_trans HW.out hbz)
  clear e_1
  clear hbz
  have e_2 : w3'.cell? ⟨pb, po + 2, none⟩ = some (.string c) := HP.out 2 (by simp)
  go_wp2_with fail
  refine (evNumber_at c HZc.out w3' (HE0.out.ext HW.out) (HT0.out.ext HW.out)).mono ?_
  rintro e w4' ⟨n2, rfl, hn2, hbz⟩
  obtain ⟨o2, ho2⟩ : ∃ q9, (numO c.data.toList).isSome = q9 := ⟨_, rfl⟩
  rw [ho2]
  have HN2 := Lib.hid hn2
  have HO2 := Lib.hid ho2
  clear hn2 ho2
  replace HR_o := Lib.hid (HR_o.out.ext hbz)
  replace HP := Lib.hid (HP.out.ext hbz)
  replace HW := Lib.hid (ext_trans HW.out hbz)
  clear e_2
  clear hbz
  have e_0 : w4'.cell? ⟨pb, po, none⟩ = some (.string a) := HP.out 0 (by simp)
  have lt_pb : pb < w4'.heap.size := HP.out.lt (by simp)
  go_upto_region 7 with (fail)
  refine wp_vr1 fun w5' hbz hR0 => ?_
  have lt_o_e : w.heap.size < w4'.heap.size := HR_o.out.lt
  have le_e : w.heap.size ≤ w4'.heap.size := HW.out.size
  replace HR_o := Lib.hid (HR_o.out.ext hbz)
  replace HP := Lib.hid (HP.out.ext hbz)
  replace HW := Lib.hid (ext_trans HW.out hbz)
  clear e_0
  clear hbz
  have HR_e : Hid (RH w5' w4'.heap.size #[.string a, .int .i64 (n1), .int .i64 0, .int .i64 (n2), .string ⟨#[]⟩, .string ⟨#[]⟩, .int .i64 0, .int .i64 0] 31) := Lib.hid hR0
  clear hR0
  generalize w4'.heap.size = b_e at *
  have e_0 : w5'.cell? ⟨pb, po, none⟩ = some (.string a) := HP.out 0 (by simp)
  obtain ⟨wa, hwa⟩ : ∃ z, wordsB a.data.toList = z := ⟨_, rfl⟩
  have HWA := Lib.hid hwa
  have HXR := Lib.hid (fun W9 => (by have h9 := flag_XisRow a (Nat.le_trans HZa.out (by decide)) W9; rw [hwa] at h9; exact h9 : Calls Tryz.prog 41 #[.string a] W9 fun e w' => e = .returned (.bool wa) ∧ W9 = w'))
  clear hwa
  go_wp2_with fail
  refine (HXR.out _).mono ?_
  rintro e w9 ⟨rfl, hw9⟩
  subst hw9
  clear HXR
  cases wa
  ·have HN : Hid (readO s.data.toList = none) := Lib.hid (HRD'.out.trans (read4_no (.inl HWA.out)))
   clear HR_e
   have c_o_0 : w5'.cell? ⟨w.heap.size, 0, none⟩ = some (.string ⟨#[]⟩) := (HR_o.out.cell 0).trans rfl
   have c_o_1 : w5'.cell? ⟨w.heap.size, 1, none⟩ = some (.int .i64 0) := (HR_o.out.cell 1).trans rfl
   have c_o_2 : w5'.cell? ⟨w.heap.size, 2, none⟩ = some (.int .i64 0) := (HR_o.out.cell 2).trans rfl
   have c_o_3 : w5'.cell? ⟨w.heap.size, 3, none⟩ = some (.int .i64 0) := (HR_o.out.cell 3).trans rfl
   have c_o_4 : w5'.cell? ⟨w.heap.size, 4, none⟩ = some (.string ⟨#[]⟩) := (HR_o.out.cell 4).trans rfl
   have c_o_5 : w5'.cell? ⟨w.heap.size, 5, none⟩ = some (.string ⟨#[]⟩) := (HR_o.out.cell 5).trans rfl
   have c_o_6 : w5'.cell? ⟨w.heap.size, 6, none⟩ = some (.int .i64 0) := (HR_o.out.cell 6).trans rfl
   have c_o_7 : w5'.cell? ⟨w.heap.size, 7, none⟩ = some (.int .i64 0) := (HR_o.out.cell 7).trans rfl
   have f_o_0 := HR_o.out.fre 0
   have f_o_1 := HR_o.out.fre 1
   have f_o_2 := HR_o.out.fre 2
   have f_o_3 := HR_o.out.fre 3
   have f_o_4 := HR_o.out.fre 4
   have f_o_5 := HR_o.out.fre 5
   have f_o_6 := HR_o.out.fre 6
   have f_o_7 := HR_o.out.fre 7
   go_wp2
   obtain ⟨w6', hX⟩ : ∃ Z9, Z9 = ((((((((w5'.setCell ⟨w.heap.size, 0, none⟩ (.string ⟨#[]⟩)).setCell ⟨w.heap.size, 1, none⟩ (.int .i64 0)).setCell ⟨w.heap.size, 2, none⟩ (.int .i64 0)).setCell ⟨w.heap.size, 3, none⟩ (.int .i64 0)).setCell ⟨w.heap.size, 4, none⟩ (.string ⟨#[]⟩)).setCell ⟨w.heap.size, 5, none⟩ (.string ⟨#[]⟩)).setCell ⟨w.heap.size, 6, none⟩ (.int .i64 0)).setCell ⟨w.heap.size, 7, none⟩ (.int .i64 0)) := ⟨_, rfl⟩
   rw [← hX]
   have n_o : Hid (RH w6' w.heap.size #[.string ⟨#[]⟩, .int .i64 0, .int .i64 0, .int .i64 0, .string ⟨#[]⟩, .string ⟨#[]⟩, .int .i64 0, .int .i64 0] 31) := by rw [hX]; exact Lib.hid (((((((((HR_o.out).set 0 (.string ⟨#[]⟩)).set 1 (.int .i64 0)).set 2 (.int .i64 0)).set 3 (.int .i64 0)).set 4 (.string ⟨#[]⟩)).set 5 (.string ⟨#[]⟩)).set 6 (.int .i64 0)).set 7 (.int .i64 0))
   have HK_ : ∀ p : Addr, p.block ≠ w.heap.size → w6'.cell? p = w5'.cell? p := fun p hp => by rw [hX]; exact (cs_vr hp).trans ((cs_vr hp).trans ((cs_vr hp).trans ((cs_vr hp).trans ((cs_vr hp).trans ((cs_vr hp).trans ((cs_vr hp).trans (cs_vr hp)))))))
   have n_HP : Hid (Pcs w6' pb po [a, b, c, d]) := Lib.hid (HP.out.far HR_o.out.box (show pb ≠ w.heap.size by omega) HK_)
   have nW : Hid (Below w.heap.size w w6') := by rw [hX]; exact Lib.hid (zzw (zzw (zzw (zzw (zzw (zzw (zzw (zzw (HW.out) (by omega)) (by omega)) (by omega)) (by omega)) (by omega)) (by omega)) (by omega)) (by omega))
   clear e_0 c_o_0 c_o_1 c_o_2 c_o_3 c_o_4 c_o_5 c_o_6 c_o_7 f_o_0 f_o_1 f_o_2 f_o_3 f_o_4 f_o_5 f_o_6 f_o_7
   clear hX HK_ HW HR_o HP
   have HR_o := n_o; clear n_o
   have HP := n_HP; clear n_HP
   have HW := nW; clear nW
   have c_o_0 : w6'.cell? ⟨w.heap.size, 0, none⟩ = some (.string ⟨#[]⟩) := (HR_o.out.cell 0).trans rfl
   have c_o_1 : w6'.cell? ⟨w.heap.size, 1, none⟩ = some (.int .i64 0) := (HR_o.out.cell 1).trans rfl
   have c_o_2 : w6'.cell? ⟨w.heap.size, 2, none⟩ = some (.int .i64 0) := (HR_o.out.cell 2).trans rfl
   have c_o_3 : w6'.cell? ⟨w.heap.size, 3, none⟩ = some (.int .i64 0) := (HR_o.out.cell 3).trans rfl
   have c_o_4 : w6'.cell? ⟨w.heap.size, 4, none⟩ = some (.string ⟨#[]⟩) := (HR_o.out.cell 4).trans rfl
   have c_o_5 : w6'.cell? ⟨w.heap.size, 5, none⟩ = some (.string ⟨#[]⟩) := (HR_o.out.cell 5).trans rfl
   have c_o_6 : w6'.cell? ⟨w.heap.size, 6, none⟩ = some (.int .i64 0) := (HR_o.out.cell 6).trans rfl
   have c_o_7 : w6'.cell? ⟨w.heap.size, 7, none⟩ = some (.int .i64 0) := (HR_o.out.cell 7).trans rfl
   exact bodyPost_ret (v := .tuple #[.agg #[.string ⟨#[]⟩, .int .i64 0, .int .i64 0, .int .i64 0, .string ⟨#[]⟩, .string ⟨#[]⟩, .int .i64 0, .int .i64 0], .bool false]) (by simp [results, Tryz.results23, go_sem, c_o_0, c_o_1, c_o_2, c_o_3, c_o_4, c_o_5, c_o_6, c_o_7]) rfl ⟨⟨⟨#[]⟩, 0, 0, 0, ⟨#[]⟩, ⟨#[]⟩, 0, 0⟩, _, rfl, ⟨zle, zle, zle⟩, .inr ⟨HN.out, rfl⟩, HW.out⟩
  ·cases o1
   ·have HN : Hid (readO s.data.toList = none) := Lib.hid (HRD'.out.trans (read4_no (.inr (.inl (num_none HO1.out)))))
    clear HR_e
    have c_o_0 : w5'.cell? ⟨w.heap.size, 0, none⟩ = some (.string ⟨#[]⟩) := (HR_o.out.cell 0).trans rfl
    have c_o_1 : w5'.cell? ⟨w.heap.size, 1, none⟩ = some (.int .i64 0) := (HR_o.out.cell 1).trans rfl
    have c_o_2 : w5'.cell? ⟨w.heap.size, 2, none⟩ = some (.int .i64 0) := (HR_o.out.cell 2).trans rfl
    have c_o_3 : w5'.cell? ⟨w.heap.size, 3, none⟩ = some (.int .i64 0) := (HR_o.out.cell 3).trans rfl
    have c_o_4 : w5'.cell? ⟨w.heap.size, 4, none⟩ = some (.string ⟨#[]⟩) := (HR_o.out.cell 4).trans rfl
    have c_o_5 : w5'.cell? ⟨w.heap.size, 5, none⟩ = some (.string ⟨#[]⟩) := (HR_o.out.cell 5).trans rfl
    have c_o_6 : w5'.cell? ⟨w.heap.size, 6, none⟩ = some (.int .i64 0) := (HR_o.out.cell 6).trans rfl
    have c_o_7 : w5'.cell? ⟨w.heap.size, 7, none⟩ = some (.int .i64 0) := (HR_o.out.cell 7).trans rfl
    have f_o_0 := HR_o.out.fre 0
    have f_o_1 := HR_o.out.fre 1
    have f_o_2 := HR_o.out.fre 2
    have f_o_3 := HR_o.out.fre 3
    have f_o_4 := HR_o.out.fre 4
    have f_o_5 := HR_o.out.fre 5
    have f_o_6 := HR_o.out.fre 6
    have f_o_7 := HR_o.out.fre 7
    go_wp2
    obtain ⟨w6', hX⟩ : ∃ Z9, Z9 = ((((((((w5'.setCell ⟨w.heap.size, 0, none⟩ (.string ⟨#[]⟩)).setCell ⟨w.heap.size, 1, none⟩ (.int .i64 0)).setCell ⟨w.heap.size, 2, none⟩ (.int .i64 0)).setCell ⟨w.heap.size, 3, none⟩ (.int .i64 0)).setCell ⟨w.heap.size, 4, none⟩ (.string ⟨#[]⟩)).setCell ⟨w.heap.size, 5, none⟩ (.string ⟨#[]⟩)).setCell ⟨w.heap.size, 6, none⟩ (.int .i64 0)).setCell ⟨w.heap.size, 7, none⟩ (.int .i64 0)) := ⟨_, rfl⟩
    rw [← hX]
    have n_o : Hid (RH w6' w.heap.size #[.string ⟨#[]⟩, .int .i64 0, .int .i64 0, .int .i64 0, .string ⟨#[]⟩, .string ⟨#[]⟩, .int .i64 0, .int .i64 0] 31) := by rw [hX]; exact Lib.hid (((((((((HR_o.out).set 0 (.string ⟨#[]⟩)).set 1 (.int .i64 0)).set 2 (.int .i64 0)).set 3 (.int .i64 0)).set 4 (.string ⟨#[]⟩)).set 5 (.string ⟨#[]⟩)).set 6 (.int .i64 0)).set 7 (.int .i64 0))
    have HK_ : ∀ p : Addr, p.block ≠ w.heap.size → w6'.cell? p = w5'.cell? p := fun p hp => by rw [hX]; exact (cs_vr hp).trans ((cs_vr hp).trans ((cs_vr hp).trans ((cs_vr hp).trans ((cs_vr hp).trans ((cs_vr hp).trans ((cs_vr hp).trans (cs_vr hp)))))))
    have n_HP : Hid (Pcs w6' pb po [a, b, c, d]) := Lib.hid (HP.out.far HR_o.out.box (show pb ≠ w.heap.size by omega) HK_)
    have nW : Hid (Below w.heap.size w w6') := by rw [hX]; exact Lib.hid (zzw (zzw (zzw (zzw (zzw (zzw (zzw (zzw (HW.out) (by omega)) (by omega)) (by omega)) (by omega)) (by omega)) (by omega)) (by omega)) (by omega))
    clear e_0 c_o_0 c_o_1 c_o_2 c_o_3 c_o_4 c_o_5 c_o_6 c_o_7 f_o_0 f_o_1 f_o_2 f_o_3 f_o_4 f_o_5 f_o_6 f_o_7
    clear hX HK_ HW HR_o HP
    have HR_o := n_o; clear n_o
    have HP := n_HP; clear n_HP
    have HW := nW; clear nW
    have c_o_0 : w6'.cell? ⟨w.heap.size, 0, none⟩ = some (.string ⟨#[]⟩) := (HR_o.out.cell 0).trans rfl
    have c_o_1 : w6'.cell? ⟨w.heap.size, 1, none⟩ = some (.int .i64 0) := (HR_o.out.cell 1).trans rfl
    have c_o_2 : w6'.cell? ⟨w.heap.size, 2, none⟩ = some (.int .i64 0) := (HR_o.out.cell 2).trans rfl
    have c_o_3 : w6'.cell? ⟨w.heap.size, 3, none⟩ = some (.int .i64 0) := (HR_o.out.cell 3).trans rfl
    have c_o_4 : w6'.cell? ⟨w.heap.size, 4, none⟩ = some (.string ⟨#[]⟩) := (HR_o.out.cell 4).trans rfl
    have c_o_5 : w6'.cell? ⟨w.heap.size, 5, none⟩ = some (.string ⟨#[]⟩) := (HR_o.out.cell 5).trans rfl
    have c_o_6 : w6'.cell? ⟨w.heap.size, 6, none⟩ = some (.int .i64 0) := (HR_o.out.cell 6).trans rfl
    have c_o_7 : w6'.cell? ⟨w.heap.size, 7, none⟩ = some (.int .i64 0) := (HR_o.out.cell 7).trans rfl
    exact bodyPost_ret (v := .tuple #[.agg #[.string ⟨#[]⟩, .int .i64 0, .int .i64 0, .int .i64 0, .string ⟨#[]⟩, .string ⟨#[]⟩, .int .i64 0, .int .i64 0], .bool false]) (by simp [results, Tryz.results23, go_sem, c_o_0, c_o_1, c_o_2, c_o_3, c_o_4, c_o_5, c_o_6, c_o_7]) rfl ⟨⟨⟨#[]⟩, 0, 0, 0, ⟨#[]⟩, ⟨#[]⟩, 0, 0⟩, _, rfl, ⟨zle, zle, zle⟩, .inr ⟨HN.out, rfl⟩, HW.out⟩
   ·cases o2
    ·have HN : Hid (readO s.data.toList = none) := Lib.hid (HRD'.out.trans (read4_no (.inr (.inr (.inl (num_none HO2.out))))))
     clear HR_e
     have c_o_0 : w5'.cell? ⟨w.heap.size, 0, none⟩ = some (.string ⟨#[]⟩) := (HR_o.out.cell 0).trans rfl
     have c_o_1 : w5'.cell? ⟨w.heap.size, 1, none⟩ = some (.int .i64 0) := (HR_o.out.cell 1).trans rfl
     have c_o_2 : w5'.cell? ⟨w.heap.size, 2, none⟩ = some (.int .i64 0) := (HR_o.out.cell 2).trans rfl
     have c_o_3 : w5'.cell? ⟨w.heap.size, 3, none⟩ = some (.int .i64 0) := (HR_o.out.cell 3).trans rfl
     have c_o_4 : w5'.cell? ⟨w.heap.size, 4, none⟩ = some (.string ⟨#[]⟩) := (HR_o.out.cell 4).trans rfl
     have c_o_5 : w5'.cell? ⟨w.heap.size, 5, none⟩ = some (.string ⟨#[]⟩) := (HR_o.out.cell 5).trans rfl
     have c_o_6 : w5'.cell? ⟨w.heap.size, 6, none⟩ = some (.int .i64 0) := (HR_o.out.cell 6).trans rfl
     have c_o_7 : w5'.cell? ⟨w.heap.size, 7, none⟩ = some (.int .i64 0) := (HR_o.out.cell 7).trans rfl
     have f_o_0 := HR_o.out.fre 0
     have f_o_1 := HR_o.out.fre 1
     have f_o_2 := HR_o.out.fre 2
     have f_o_3 := HR_o.out.fre 3
     have f_o_4 := HR_o.out.fre 4
     have f_o_5 := HR_o.out.fre 5
     have f_o_6 := HR_o.out.fre 6
     have f_o_7 := HR_o.out.fre 7
     go_wp2
     obtain ⟨w6', hX⟩ : ∃ Z9, Z9 = ((((((((w5'.setCell ⟨w.heap.size, 0, none⟩ (.string ⟨#[]⟩)).setCell ⟨w.heap.size, 1, none⟩ (.int .i64 0)).setCell ⟨w.heap.size, 2, none⟩ (.int .i64 0)).setCell ⟨w.heap.size, 3, none⟩ (.int .i64 0)).setCell ⟨w.heap.size, 4, none⟩ (.string ⟨#[]⟩)).setCell ⟨w.heap.size, 5, none⟩ (.string ⟨#[]⟩)).setCell ⟨w.heap.size, 6, none⟩ (.int .i64 0)).setCell ⟨w.heap.size, 7, none⟩ (.int .i64 0)) := ⟨_, rfl⟩
     rw [← hX]
     have n_o : Hid (RH w6' w.heap.size #[.string ⟨#[]⟩, .int .i64 0, .int .i64 0, .int .i64 0, .string ⟨#[]⟩, .string ⟨#[]⟩, .int .i64 0, .int .i64 0] 31) := by rw [hX]; exact Lib.hid (((((((((HR_o.out).set 0 (.string ⟨#[]⟩)).set 1 (.int .i64 0)).set 2 (.int .i64 0)).set 3 (.int .i64 0)).set 4 (.string ⟨#[]⟩)).set 5 (.string ⟨#[]⟩)).set 6 (.int .i64 0)).set 7 (.int .i64 0))
     have HK_ : ∀ p : Addr, p.block ≠ w.heap.size → w6'.cell? p = w5'.cell? p := fun p hp => by rw [hX]; exact (cs_vr hp).trans ((cs_vr hp).trans ((cs_vr hp).trans ((cs_vr hp).trans ((cs_vr hp).trans ((cs_vr hp).trans ((cs_vr hp).trans (cs_vr hp)))))))
     have n_HP : Hid (Pcs w6' pb po [a, b, c, d]) := Lib.hid (HP.out.far HR_o.out.box (show pb ≠ w.heap.size by omega) HK_)
     have nW : Hid (Below w.heap.size w w6') := by rw [hX]; exact Lib.hid (zzw (zzw (zzw (zzw (zzw (zzw (zzw (zzw (HW.out) (by omega)) (by omega)) (by omega)) (by omega)) (by omega)) (by omega)) (by omega)) (by omega))
     clear e_0 c_o_0 c_o_1 c_o_2 c_o_3 c_o_4 c_o_5 c_o_6 c_o_7 f_o_0 f_o_1 f_o_2 f_o_3 f_o_4 f_o_5 f_o_6 f_o_7
     clear hX HK_ HW HR_o HP
     have HR_o := n_o; clear n_o
     have HP := n_HP; clear n_HP
     have HW := nW; clear nW
     have c_o_0 : w6'.cell? ⟨w.heap.size, 0, none⟩ = some (.string ⟨#[]⟩) := (HR_o.out.cell 0).trans rfl
     have c_o_1 : w6'.cell? ⟨w.heap.size, 1, none⟩ = some (.int .i64 0) := (HR_o.out.cell 1).trans rfl
     have c_o_2 : w6'.cell? ⟨w.heap.size, 2, none⟩ = some (.int .i64 0) := (HR_o.out.cell 2).trans rfl
     have c_o_3 : w6'.cell? ⟨w.heap.size, 3, none⟩ = some (.int .i64 0) := (HR_o.out.cell 3).trans rfl
     have c_o_4 : w6'.cell? ⟨w.heap.size, 4, none⟩ = some (.string ⟨#[]⟩) := (HR_o.out.cell 4).trans rfl
     have c_o_5 : w6'.cell? ⟨w.heap.size, 5, none⟩ = some (.string ⟨#[]⟩) := (HR_o.out.cell 5).trans rfl
     have c_o_6 : w6'.cell? ⟨w.heap.size, 6, none⟩ = some (.int .i64 0) := (HR_o.out.cell 6).trans rfl
     have c_o_7 : w6'.cell? ⟨w.heap.size, 7, none⟩ = some (.int .i64 0) := (HR_o.out.cell 7).trans rfl
     exact bodyPost_ret (v := .tuple #[.agg #[.string ⟨#[]⟩, .int .i64 0, .int .i64 0, .int .i64 0, .string ⟨#[]⟩, .string ⟨#[]⟩, .int .i64 0, .int .i64 0], .bool false]) (by simp [results, Tryz.results23, go_sem, c_o_0, c_o_1, c_o_2, c_o_3, c_o_4, c_o_5, c_o_6, c_o_7]) rfl ⟨⟨⟨#[]⟩, 0, 0, 0, ⟨#[]⟩, ⟨#[]⟩, 0, 0⟩, _, rfl, ⟨zle, zle, zle⟩, .inr ⟨HN.out, rfl⟩, HW.out⟩
    ·have HB1 := Lib.hid (num_get HO1.out HN1.out)
     have HB2 := Lib.hid (num_get HO2.out HN2.out)
     clear HO1 HN1 HO2 HN2
     have c_e_0 : w5'.cell? ⟨b_e, 0, none⟩ = some (.string a) := (HR_e.out.cell 0).trans rfl
     have c_e_1 : w5'.cell? ⟨b_e, 1, none⟩ = some (.int .i64 (n1)) := (HR_e.out.cell 1).trans rfl
     have c_e_2 : w5'.cell? ⟨b_e, 2, none⟩ = some (.int .i64 0) := (HR_e.out.cell 2).trans rfl
     have c_e_3 : w5'.cell? ⟨b_e, 3, none⟩ = some (.int .i64 (n2)) := (HR_e.out.cell 3).trans rfl
     have c_e_4 : w5'.cell? ⟨b_e, 4, none⟩ = some (.string ⟨#[]⟩) := (HR_e.out.cell 4).trans rfl
     have c_e_5 : w5'.cell? ⟨b_e, 5, none⟩ = some (.string ⟨#[]⟩) := (HR_e.out.cell 5).trans rfl
     have c_e_6 : w5'.cell? ⟨b_e, 6, none⟩ = some (.int .i64 0) := (HR_e.out.cell 6).trans rfl
     have c_e_7 : w5'.cell? ⟨b_e, 7, none⟩ = some (.int .i64 0) := (HR_e.out.cell 7).trans rfl
     have f_e_0 := HR_e.out.fre 0
     have f_e_1 := HR_e.out.fre 1
     have f_e_2 := HR_e.out.fre 2
     have f_e_3 := HR_e.out.fre 3
     have f_e_4 := HR_e.out.fre 4
     have f_e_5 := HR_e.out.fre 5
     have f_e_6 := HR_e.out.fre 6
     have f_e_7 := HR_e.out.fre 7
     have c_o_0 : w5'.cell? ⟨w.heap.size, 0, none⟩ = some (.string ⟨#[]⟩) := (HR_o.out.cell 0).trans rfl
     have c_o_1 : w5'.cell? ⟨w.heap.size, 1, none⟩ = some (.int .i64 0) := (HR_o.out.cell 1).trans rfl
     have c_o_2 : w5'.cell? ⟨w.heap.size, 2, none⟩ = some (.int .i64 0) := (HR_o.out.cell 2).trans rfl
     have c_o_3 : w5'.cell? ⟨w.heap.size, 3, none⟩ = some (.int .i64 0) := (HR_o.out.cell 3).trans rfl
     have c_o_4 : w5'.cell? ⟨w.heap.size, 4, none⟩ = some (.string ⟨#[]⟩) := (HR_o.out.cell 4).trans rfl
     have c_o_5 : w5'.cell? ⟨w.heap.size, 5, none⟩ = some (.string ⟨#[]⟩) := (HR_o.out.cell 5).trans rfl
     have c_o_6 : w5'.cell? ⟨w.heap.size, 6, none⟩ = some (.int .i64 0) := (HR_o.out.cell 6).trans rfl
     have c_o_7 : w5'.cell? ⟨w.heap.size, 7, none⟩ = some (.int .i64 0) := (HR_o.out.cell 7).trans rfl
     have f_o_0 := HR_o.out.fre 0
     have f_o_1 := HR_o.out.fre 1
     have f_o_2 := HR_o.out.fre 2
     have f_o_3 := HR_o.out.fre 3
     have f_o_4 := HR_o.out.fre 4
     have f_o_5 := HR_o.out.fre 5
     have f_o_6 := HR_o.out.fre 6
     have f_o_7 := HR_o.out.fre 7
     go_upto_region 11 with (fail)
     obtain ⟨w6', hX⟩ : ∃ Z9, Z9 = (w5'.setCell ⟨b_e, 2, none⟩ (.int .i64 (3))) := ⟨_, rfl⟩
     rw [← hX]
     have n_e : Hid (RH w6' b_e #[.string a, .int .i64 (n1), .int .i64 (3), .int .i64 (n2), .string ⟨#[]⟩, .string ⟨#[]⟩, .int .i64 0, .int .i64 0] 31) := by rw [hX]; exact Lib.hid ((HR_e.out).set 2 (.int .i64 (3)))
     have n_o : Hid (RH w6' w.heap.size #[.string ⟨#[]⟩, .int .i64 0, .int .i64 0, .int .i64 0, .string ⟨#[]⟩, .string ⟨#[]⟩, .int .i64 0, .int .i64 0] 31) := by rw [hX]; exact Lib.hid (zzo (HR_o.out) (by omega))
     have HK_ : ∀ p : Addr, p.block ≠ b_e → w6'.cell? p = w5'.cell? p := fun p hp => by rw [hX]; exact cs_vr hp
     have n_HP : Hid (Pcs w6' pb po [a, b, c, d]) := Lib.hid (HP.out.far HR_e.out.box (show pb ≠ b_e by omega) HK_)
     have nW : Hid (Below w.heap.size w w6') := by rw [hX]; exact Lib.hid (zzw (HW.out) (by omega))
     clear e_0 c_e_0 c_e_1 c_e_2 c_e_3 c_e_4 c_e_5 c_e_6 c_e_7 f_e_0 f_e_1 f_e_2 f_e_3 f_e_4 f_e_5 f_e_6 f_e_7 c_o_0 c_o_1 c_o_2 c_o_3 c_o_4 c_o_5 c_o_6 c_o_7 f_o_0 f_o_1 f_o_2 f_o_3 f_o_4 f_o_5 f_o_6 f_o_7
     clear hX HK_ HW HR_o HR_e HP
     have HR_o := n_o; clear n_o
     have HR_e := n_e; clear n_e
     have HP := n_HP; clear n_HP
     have HW := nW; clear nW
     by_cases hd : d.data.toList = markL
     ·have qd : (d.toList == [109, 97, 114, 107]) = true := by rw [ByteArray.toList_eq]; exact beq_iff_eq.2 hd
      obtain ⟨w7', hZ0⟩ : ∃ Z9, Z9 = w6'.drew := ⟨_, rfl⟩
      have r0_o : Hid (RH w7' w.heap.size #[.string ⟨#[]⟩, .int .i64 0, .int .i64 0, .int .i64 0, .string ⟨#[]⟩, .string ⟨#[]⟩, .int .i64 0, .int .i64 0] 31) := by rw [hZ0]; exact HR_o
      have r0_e : Hid (RH w7' b_e #[.string a, .int .i64 (n1), .int .i64 (3), .int .i64 (n2), .string ⟨#[]⟩, .string ⟨#[]⟩, .int .i64 0, .int .i64 0] 31) := by rw [hZ0]; exact HR_e
      have x0_HP : Hid (Pcs w7' pb po [a, b, c, d]) := by rw [hZ0]; exact HP
      have HW0 : Hid (Below w.heap.size w w7') := by rw [hZ0]; have h9 := HW.out; exact Lib.hid ⟨h9.1, h9.2, h9.3, h9.4, h9.5⟩
      obtain ⟨w8', hZ1⟩ : ∃ Z9, Z9 = ((((((((w7'.setCell ⟨w.heap.size, 0, none⟩ (.string a)).setCell ⟨w.heap.size, 1, none⟩ (.int .i64 (n1))).setCell ⟨w.heap.size, 2, none⟩ (.int .i64 (3))).setCell ⟨w.heap.size, 3, none⟩ (.int .i64 (n2))).setCell ⟨w.heap.size, 4, none⟩ (.string ⟨#[]⟩)).setCell ⟨w.heap.size, 5, none⟩ (.string ⟨#[]⟩)).setCell ⟨w.heap.size, 6, none⟩ (.int .i64 0)).setCell ⟨w.heap.size, 7, none⟩ (.int .i64 0)) := ⟨_, rfl⟩
      have r1_o : Hid (RH w8' w.heap.size #[.string a, .int .i64 (n1), .int .i64 (3), .int .i64 (n2), .string ⟨#[]⟩, .string ⟨#[]⟩, .int .i64 0, .int .i64 0] 31) := by rw [hZ1]; exact Lib.hid (((((((((r0_o.out).set 0 (.string a)).set 1 (.int .i64 (n1))).set 2 (.int .i64 (3))).set 3 (.int .i64 (n2))).set 4 (.string ⟨#[]⟩)).set 5 (.string ⟨#[]⟩)).set 6 (.int .i64 0)).set 7 (.int .i64 0))
      have r1_e : Hid (RH w8' b_e #[.string a, .int .i64 (n1), .int .i64 (3), .int .i64 (n2), .string ⟨#[]⟩, .string ⟨#[]⟩, .int .i64 0, .int .i64 0] 31) := by rw [hZ1]; exact Lib.hid (zzo (zzo (zzo (zzo (zzo (zzo (zzo (zzo (r0_e.out) (by omega)) (by omega)) (by omega)) (by omega)) (by omega)) (by omega)) (by omega)) (by omega))
      have HK_ : ∀ p : Addr, p.block ≠ w.heap.size → w8'.cell? p = w7'.cell? p := fun p hp => by rw [hZ1]; exact (cs_vr hp).trans ((cs_vr hp).trans ((cs_vr hp).trans ((cs_vr hp).trans ((cs_vr hp).trans ((cs_vr hp).trans ((cs_vr hp).trans (cs_vr hp)))))))
      have x1_HP : Hid (Pcs w8' pb po [a, b, c, d]) := Lib.hid (x0_HP.out.far r0_o.out.box (show pb ≠ w.heap.size by omega) HK_)
      clear HK_
      have HW1 : Hid (Below w.heap.size w w8') := by rw [hZ1]; exact Lib.hid (zzw (zzw (zzw (zzw (zzw (zzw (zzw (zzw (HW0.out) (by omega)) (by omega)) (by omega)) (by omega)) (by omega)) (by omega)) (by omega)) (by omega))
      have HCZ : ∀ k9, k9 ≤ 1 → (fun w' : World => w'.cell? ⟨b_e, 0, none⟩ = some (.string a) ∧ w'.cell? ⟨b_e, 1, none⟩ = some (.int .i64 (n1)) ∧ w'.cell? ⟨b_e, 2, none⟩ = some (.int .i64 (3)) ∧ w'.cell? ⟨b_e, 3, none⟩ = some (.int .i64 (n2)) ∧ w'.cell? ⟨b_e, 4, none⟩ = some (.string ⟨#[]⟩) ∧ w'.cell? ⟨b_e, 5, none⟩ = some (.string ⟨#[]⟩) ∧ w'.cell? ⟨b_e, 6, none⟩ = some (.int .i64 0) ∧ w'.cell? ⟨b_e, 7, none⟩ = some (.int .i64 0) ∧ w'.cell? ⟨pb, po + 3, none⟩ = some (.string d)) ([w7', w8'].getD k9 w6') := fun k9 hk9 => by
       match k9, hk9 with
       | 0, _ => exact ⟨(r0_e.out.cell 0).trans rfl, (r0_e.out.cell 1).trans rfl, (r0_e.out.cell 2).trans rfl, (r0_e.out.cell 3).trans rfl, (r0_e.out.cell 4).trans rfl, (r0_e.out.cell 5).trans rfl, (r0_e.out.cell 6).trans rfl, (r0_e.out.cell 7).trans rfl, x0_HP.out 3 (by simp)⟩
       | 1, _ => exact ⟨(r1_e.out.cell 0).trans rfl, (r1_e.out.cell 1).trans rfl, (r1_e.out.cell 2).trans rfl, (r1_e.out.cell 3).trans rfl, (r1_e.out.cell 4).trans rfl, (r1_e.out.cell 5).trans rfl, (r1_e.out.cell 6).trans rfl, (r1_e.out.cell 7).trans rfl, x1_HP.out 3 (by simp)⟩
       | k9 + 2, h => omega
      have HZ0 := Lib.hid hZ0
      have HZ1 := Lib.hid hZ1
      clear hZ0 hZ1
      refine Grow.wp_region_stores 7 1 [w7', w8'] (fun w' => w'.cell? ⟨b_e, 0, none⟩ = some (.string a) ∧ w'.cell? ⟨b_e, 1, none⟩ = some (.int .i64 (n1)) ∧ w'.cell? ⟨b_e, 2, none⟩ = some (.int .i64 (3)) ∧ w'.cell? ⟨b_e, 3, none⟩ = some (.int .i64 (n2)) ∧ w'.cell? ⟨b_e, 4, none⟩ = some (.string ⟨#[]⟩) ∧ w'.cell? ⟨b_e, 5, none⟩ = some (.string ⟨#[]⟩) ∧ w'.cell? ⟨b_e, 6, none⟩ = some (.int .i64 0) ∧ w'.cell? ⟨b_e, 7, none⟩ = some (.int .i64 0) ∧ w'.cell? ⟨pb, po + 3, none⟩ = some (.string d)) [fun v => v = .agg #[.string a, .int .i64 (n1), .int .i64 (3), .int .i64 (n2), .string ⟨#[]⟩, .string ⟨#[]⟩, .int .i64 0, .int .i64 0], fun v => v = .slice (some ⟨pb, po, none⟩) 4 cp, fun v => v = .pointer (some ⟨pb, po + 3, none⟩), fun v => v = .string d, fun v => v = .bool true, fun _ => True, fun v => v = .bool true] [[], [], [1], [2], [3], [0], [4]] [none, none, none, none, none, some 0, none] (by kernel_rfl) (by kernel_rfl) HZ0.out HCZ ⟨?s0tt, ?s1tt, ?s2tt, ?s3tt, ?s4tt, ?s5tt, ?s6tt, trivial⟩ ?_
      all_goals clear HCZ
      case s0tt =>
       intro w' hC 
       obtain ⟨ce0, ce1, ce2, ce3, ce4, ce5, ce6, ce7, -⟩ := hC
       show wpList _ _ _ _ _ _
       go_wp2
       exact ⟨rfl, rfl, rfl⟩
      case s1tt =>
       intro w' hC 
       show wpList _ _ _ _ _ _
       go_wp2
       exact ⟨rfl, rfl, rfl⟩
      case s2tt =>
       intro w' hC v1 hv1
       obtain rfl : v1 = _ := hv1
       obtain ⟨-, -, -, -, -, -, -, -, e3⟩ := hC
       show wpList _ _ _ _ _ _
       simp only [Grow.dstOf, zz1, zz2, zz3, zz4, Act.put, zz5, zz6, zz7]
       go_wp2
       exact ⟨rfl, rfl, rfl⟩
      case s3tt =>
       intro w' hC v1 hv1
       obtain rfl : v1 = _ := hv1
       obtain ⟨-, -, -, -, -, -, -, -, e3⟩ := hC
       show wpList _ _ _ _ _ _
       simp only [Grow.dstOf, zz1, zz2, zz3, zz4, Act.put, zz5, zz6, zz7]
       go_wp2
       exact ⟨rfl, rfl, rfl⟩
      case s4tt =>
       intro w' hC v1 hv1
       obtain rfl : v1 = _ := hv1
       show wpList _ _ _ _ _ _
       simp only [Grow.dstOf, zz1, zz2, zz3, zz4, Act.put, zz5, zz6, zz7]
       go_wp2
       exact ⟨rfl, rfl, rfl⟩
      case s5tt =>
       intro v1 hv1
       obtain rfl : v1 = _ := hv1
       have g0 : w7'.cell? ⟨w.heap.size, 0, none⟩ = some (.string ⟨#[]⟩) := (r0_o.out.cell 0).trans rfl
       have f0 := r0_o.out.fre 0
       have g1 : w7'.cell? ⟨w.heap.size, 1, none⟩ = some (.int .i64 0) := (r0_o.out.cell 1).trans rfl
       have f1 := r0_o.out.fre 1
       have g2 : w7'.cell? ⟨w.heap.size, 2, none⟩ = some (.int .i64 0) := (r0_o.out.cell 2).trans rfl
       have f2 := r0_o.out.fre 2
       have g3 : w7'.cell? ⟨w.heap.size, 3, none⟩ = some (.int .i64 0) := (r0_o.out.cell 3).trans rfl
       have f3 := r0_o.out.fre 3
       have g4 : w7'.cell? ⟨w.heap.size, 4, none⟩ = some (.string ⟨#[]⟩) := (r0_o.out.cell 4).trans rfl
       have f4 := r0_o.out.fre 4
       have g5 : w7'.cell? ⟨w.heap.size, 5, none⟩ = some (.string ⟨#[]⟩) := (r0_o.out.cell 5).trans rfl
       have f5 := r0_o.out.fre 5
       have g6 : w7'.cell? ⟨w.heap.size, 6, none⟩ = some (.int .i64 0) := (r0_o.out.cell 6).trans rfl
       have f6 := r0_o.out.fre 6
       have g7 : w7'.cell? ⟨w.heap.size, 7, none⟩ = some (.int .i64 0) := (r0_o.out.cell 7).trans rfl
       have f7 := r0_o.out.fre 7
       show wpList _ _ _ _ _ w7'
       simp only [Grow.dstOf, zz1, zz3, zz4, Act.put, zz5, zz6, zz7]
       go_wp2
       exact ⟨trivial, HZ1.out.symm, rfl⟩
      case s6tt =>
       intro w' hC v1 hv1
       obtain rfl : v1 = _ := hv1
       show wpList _ _ _ _ _ _
       simp only [Grow.dstOf, zz1, zz2, zz3, zz4, Act.put, zz5, zz6, zz7]
       go_wp2
       exact ⟨rfl, rfl, rfl⟩
      intro u0 hu0 u1 hu1 u2 hu2 u3 hu3 u4 hu4 u5 hu5 u6 hu6
      obtain rfl : u6 = _ := hu6 rfl
      refine Grow.TailV.fin w8' rfl ?_
      simp only [Act.put, zz5, zz6, zz7]
      replace HW := HW1
      clear HW0 HW1
      replace HR_o := r1_o
      clear r0_o r1_o
      replace HR_e := r1_e
      clear r0_e r1_e
      replace HP := x1_HP
      clear x0_HP x1_HP
      clear hu0 hu1 hu2 hu3 hu4 hu5 HZ0 HZ1
      have HN := Lib.hid (HRD'.out.trans (read4_yes HB1.out HB2.out HWA.out hd))
      have c_o_0 : w8'.cell? ⟨w.heap.size, 0, none⟩ = some (.string a) := (HR_o.out.cell 0).trans rfl
      have c_o_1 : w8'.cell? ⟨w.heap.size, 1, none⟩ = some (.int .i64 (n1)) := (HR_o.out.cell 1).trans rfl
      have c_o_2 : w8'.cell? ⟨w.heap.size, 2, none⟩ = some (.int .i64 (3)) := (HR_o.out.cell 2).trans rfl
      have c_o_3 : w8'.cell? ⟨w.heap.size, 3, none⟩ = some (.int .i64 (n2)) := (HR_o.out.cell 3).trans rfl
      have c_o_4 : w8'.cell? ⟨w.heap.size, 4, none⟩ = some (.string ⟨#[]⟩) := (HR_o.out.cell 4).trans rfl
      have c_o_5 : w8'.cell? ⟨w.heap.size, 5, none⟩ = some (.string ⟨#[]⟩) := (HR_o.out.cell 5).trans rfl
      have c_o_6 : w8'.cell? ⟨w.heap.size, 6, none⟩ = some (.int .i64 0) := (HR_o.out.cell 6).trans rfl
      have c_o_7 : w8'.cell? ⟨w.heap.size, 7, none⟩ = some (.int .i64 0) := (HR_o.out.cell 7).trans rfl
      go_wp2
      exact bodyPost_ret (v := .tuple #[.agg #[.string a, .int .i64 (n1), .int .i64 (3), .int .i64 (n2), .string ⟨#[]⟩, .string ⟨#[]⟩, .int .i64 0, .int .i64 0], .bool true]) (by simp [results, Tryz.results23, go_sem, c_o_0, c_o_1, c_o_2, c_o_3, c_o_4, c_o_5, c_o_6, c_o_7]) rfl ⟨⟨a, n1, 3, n2, ⟨#[]⟩, ⟨#[]⟩, 0, 0⟩, _, rfl, ⟨Nat.le_trans HZa.out (by decide), zle, zle⟩, .inl ⟨by rw [HN.out, bs_data]; rfl, rfl⟩, HW.out⟩
     ·have qd : (d.toList == [109, 97, 114, 107]) = false := by rw [ByteArray.toList_eq]; exact beq_eq_false_iff_ne.2 hd
      obtain ⟨w7', hZ0⟩ : ∃ Z9, Z9 = w6'.drew := ⟨_, rfl⟩
      have r0_o : Hid (RH w7' w.heap.size #[.string ⟨#[]⟩, .int .i64 0, .int .i64 0, .int .i64 0, .string ⟨#[]⟩, .string ⟨#[]⟩, .int .i64 0, .int .i64 0] 31) := by rw [hZ0]; exact HR_o
      have r0_e : Hid (RH w7' b_e #[.string a, .int .i64 (n1), .int .i64 (3), .int .i64 (n2), .string ⟨#[]⟩, .string ⟨#[]⟩, .int .i64 0, .int .i64 0] 31) := by rw [hZ0]; exact HR_e
      have x0_HP : Hid (Pcs w7' pb po [a, b, c, d]) := by rw [hZ0]; exact HP
      have HW0 : Hid (Below w.heap.size w w7') := by rw [hZ0]; have h9 := HW.out; exact Lib.hid ⟨h9.1, h9.2, h9.3, h9.4, h9.5⟩
      obtain ⟨w8', hZ1⟩ : ∃ Z9, Z9 = ((((((((w7'.setCell ⟨w.heap.size, 0, none⟩ (.string a)).setCell ⟨w.heap.size, 1, none⟩ (.int .i64 (n1))).setCell ⟨w.heap.size, 2, none⟩ (.int .i64 (3))).setCell ⟨w.heap.size, 3, none⟩ (.int .i64 (n2))).setCell ⟨w.heap.size, 4, none⟩ (.string ⟨#[]⟩)).setCell ⟨w.heap.size, 5, none⟩ (.string ⟨#[]⟩)).setCell ⟨w.heap.size, 6, none⟩ (.int .i64 0)).setCell ⟨w.heap.size, 7, none⟩ (.int .i64 0)) := ⟨_, rfl⟩
      have r1_o : Hid (RH w8' w.heap.size #[.string a, .int .i64 (n1), .int .i64 (3), .int .i64 (n2), .string ⟨#[]⟩, .string ⟨#[]⟩, .int .i64 0, .int .i64 0] 31) := by rw [hZ1]; exact Lib.hid (((((((((r0_o.out).set 0 (.string a)).set 1 (.int .i64 (n1))).set 2 (.int .i64 (3))).set 3 (.int .i64 (n2))).set 4 (.string ⟨#[]⟩)).set 5 (.string ⟨#[]⟩)).set 6 (.int .i64 0)).set 7 (.int .i64 0))
      have r1_e : Hid (RH w8' b_e #[.string a, .int .i64 (n1), .int .i64 (3), .int .i64 (n2), .string ⟨#[]⟩, .string ⟨#[]⟩, .int .i64 0, .int .i64 0] 31) := by rw [hZ1]; exact Lib.hid (zzo (zzo (zzo (zzo (zzo (zzo (zzo (zzo (r0_e.out) (by omega)) (by omega)) (by omega)) (by omega)) (by omega)) (by omega)) (by omega)) (by omega))
      have HK_ : ∀ p : Addr, p.block ≠ w.heap.size → w8'.cell? p = w7'.cell? p := fun p hp => by rw [hZ1]; exact (cs_vr hp).trans ((cs_vr hp).trans ((cs_vr hp).trans ((cs_vr hp).trans ((cs_vr hp).trans ((cs_vr hp).trans ((cs_vr hp).trans (cs_vr hp)))))))
      have x1_HP : Hid (Pcs w8' pb po [a, b, c, d]) := Lib.hid (x0_HP.out.far r0_o.out.box (show pb ≠ w.heap.size by omega) HK_)
      clear HK_
      have HW1 : Hid (Below w.heap.size w w8') := by rw [hZ1]; exact Lib.hid (zzw (zzw (zzw (zzw (zzw (zzw (zzw (zzw (HW0.out) (by omega)) (by omega)) (by omega)) (by omega)) (by omega)) (by omega)) (by omega)) (by omega))
      have HCZ : ∀ k9, k9 ≤ 1 → (fun w' : World => w'.cell? ⟨b_e, 0, none⟩ = some (.string a) ∧ w'.cell? ⟨b_e, 1, none⟩ = some (.int .i64 (n1)) ∧ w'.cell? ⟨b_e, 2, none⟩ = some (.int .i64 (3)) ∧ w'.cell? ⟨b_e, 3, none⟩ = some (.int .i64 (n2)) ∧ w'.cell? ⟨b_e, 4, none⟩ = some (.string ⟨#[]⟩) ∧ w'.cell? ⟨b_e, 5, none⟩ = some (.string ⟨#[]⟩) ∧ w'.cell? ⟨b_e, 6, none⟩ = some (.int .i64 0) ∧ w'.cell? ⟨b_e, 7, none⟩ = some (.int .i64 0) ∧ w'.cell? ⟨pb, po + 3, none⟩ = some (.string d)) ([w7', w8'].getD k9 w6') := fun k9 hk9 => by
       match k9, hk9 with
       | 0, _ => exact ⟨(r0_e.out.cell 0).trans rfl, (r0_e.out.cell 1).trans rfl, (r0_e.out.cell 2).trans rfl, (r0_e.out.cell 3).trans rfl, (r0_e.out.cell 4).trans rfl, (r0_e.out.cell 5).trans rfl, (r0_e.out.cell 6).trans rfl, (r0_e.out.cell 7).trans rfl, x0_HP.out 3 (by simp)⟩
       | 1, _ => exact ⟨(r1_e.out.cell 0).trans rfl, (r1_e.out.cell 1).trans rfl, (r1_e.out.cell 2).trans rfl, (r1_e.out.cell 3).trans rfl, (r1_e.out.cell 4).trans rfl, (r1_e.out.cell 5).trans rfl, (r1_e.out.cell 6).trans rfl, (r1_e.out.cell 7).trans rfl, x1_HP.out 3 (by simp)⟩
       | k9 + 2, h => omega
      have HZ0 := Lib.hid hZ0
      have HZ1 := Lib.hid hZ1
      clear hZ0 hZ1
      refine Grow.wp_region_stores 7 1 [w7', w8'] (fun w' => w'.cell? ⟨b_e, 0, none⟩ = some (.string a) ∧ w'.cell? ⟨b_e, 1, none⟩ = some (.int .i64 (n1)) ∧ w'.cell? ⟨b_e, 2, none⟩ = some (.int .i64 (3)) ∧ w'.cell? ⟨b_e, 3, none⟩ = some (.int .i64 (n2)) ∧ w'.cell? ⟨b_e, 4, none⟩ = some (.string ⟨#[]⟩) ∧ w'.cell? ⟨b_e, 5, none⟩ = some (.string ⟨#[]⟩) ∧ w'.cell? ⟨b_e, 6, none⟩ = some (.int .i64 0) ∧ w'.cell? ⟨b_e, 7, none⟩ = some (.int .i64 0) ∧ w'.cell? ⟨pb, po + 3, none⟩ = some (.string d)) [fun v => v = .agg #[.string a, .int .i64 (n1), .int .i64 (3), .int .i64 (n2), .string ⟨#[]⟩, .string ⟨#[]⟩, .int .i64 0, .int .i64 0], fun v => v = .slice (some ⟨pb, po, none⟩) 4 cp, fun v => v = .pointer (some ⟨pb, po + 3, none⟩), fun v => v = .string d, fun v => v = .bool false, fun _ => True, fun v => v = .bool false] [[], [], [1], [2], [3], [0], [4]] [none, none, none, none, none, some 0, none] (by kernel_rfl) (by kernel_rfl) HZ0.out HCZ ⟨?s0tf, ?s1tf, ?s2tf, ?s3tf, ?s4tf, ?s5tf, ?s6tf, trivial⟩ ?_
      all_goals clear HCZ
      case s0tf =>
       intro w' hC 
       obtain ⟨ce0, ce1, ce2, ce3, ce4, ce5, ce6, ce7, -⟩ := hC
       show wpList _ _ _ _ _ _
       go_wp2
       exact ⟨rfl, rfl, rfl⟩
      case s1tf =>
       intro w' hC 
       show wpList _ _ _ _ _ _
       go_wp2
       exact ⟨rfl, rfl, rfl⟩
      case s2tf =>
       intro w' hC v1 hv1
       obtain rfl : v1 = _ := hv1
       obtain ⟨-, -, -, -, -, -, -, -, e3⟩ := hC
       show wpList _ _ _ _ _ _
       simp only [Grow.dstOf, zz1, zz2, zz3, zz4, Act.put, zz5, zz6, zz7]
       go_wp2
       exact ⟨rfl, rfl, rfl⟩
      case s3tf =>
       intro w' hC v1 hv1
       obtain rfl : v1 = _ := hv1
       obtain ⟨-, -, -, -, -, -, -, -, e3⟩ := hC
       show wpList _ _ _ _ _ _
       simp only [Grow.dstOf, zz1, zz2, zz3, zz4, Act.put, zz5, zz6, zz7]
       go_wp2
       exact ⟨rfl, rfl, rfl⟩
      case s4tf =>
       intro w' hC v1 hv1
       obtain rfl : v1 = _ := hv1
       show wpList _ _ _ _ _ _
       simp only [Grow.dstOf, zz1, zz2, zz3, zz4, Act.put, zz5, zz6, zz7]
       go_wp2
       exact ⟨rfl, rfl, rfl⟩
      case s5tf =>
       intro v1 hv1
       obtain rfl : v1 = _ := hv1
       have g0 : w7'.cell? ⟨w.heap.size, 0, none⟩ = some (.string ⟨#[]⟩) := (r0_o.out.cell 0).trans rfl
       have f0 := r0_o.out.fre 0
       have g1 : w7'.cell? ⟨w.heap.size, 1, none⟩ = some (.int .i64 0) := (r0_o.out.cell 1).trans rfl
       have f1 := r0_o.out.fre 1
       have g2 : w7'.cell? ⟨w.heap.size, 2, none⟩ = some (.int .i64 0) := (r0_o.out.cell 2).trans rfl
       have f2 := r0_o.out.fre 2
       have g3 : w7'.cell? ⟨w.heap.size, 3, none⟩ = some (.int .i64 0) := (r0_o.out.cell 3).trans rfl
       have f3 := r0_o.out.fre 3
       have g4 : w7'.cell? ⟨w.heap.size, 4, none⟩ = some (.string ⟨#[]⟩) := (r0_o.out.cell 4).trans rfl
       have f4 := r0_o.out.fre 4
       have g5 : w7'.cell? ⟨w.heap.size, 5, none⟩ = some (.string ⟨#[]⟩) := (r0_o.out.cell 5).trans rfl
       have f5 := r0_o.out.fre 5
       have g6 : w7'.cell? ⟨w.heap.size, 6, none⟩ = some (.int .i64 0) := (r0_o.out.cell 6).trans rfl
       have f6 := r0_o.out.fre 6
       have g7 : w7'.cell? ⟨w.heap.size, 7, none⟩ = some (.int .i64 0) := (r0_o.out.cell 7).trans rfl
       have f7 := r0_o.out.fre 7
       show wpList _ _ _ _ _ w7'
       simp only [Grow.dstOf, zz1, zz3, zz4, Act.put, zz5, zz6, zz7]
       go_wp2
       exact ⟨trivial, HZ1.out.symm, rfl⟩
      case s6tf =>
       intro w' hC v1 hv1
       obtain rfl : v1 = _ := hv1
       show wpList _ _ _ _ _ _
       simp only [Grow.dstOf, zz1, zz2, zz3, zz4, Act.put, zz5, zz6, zz7]
       go_wp2
       exact ⟨rfl, rfl, rfl⟩
      intro u0 hu0 u1 hu1 u2 hu2 u3 hu3 u4 hu4 u5 hu5 u6 hu6
      obtain rfl : u6 = _ := hu6 rfl
      refine Grow.TailV.fin w8' rfl ?_
      simp only [Act.put, zz5, zz6, zz7]
      replace HW := HW1
      clear HW0 HW1
      replace HR_o := r1_o
      clear r0_o r1_o
      replace HR_e := r1_e
      clear r0_e r1_e
      replace HP := x1_HP
      clear x0_HP x1_HP
      clear hu0 hu1 hu2 hu3 hu4 hu5 HZ0 HZ1
      have HN := Lib.hid (HRD'.out.trans (read4_no (.inr (.inr (.inr hd)))))
      have c_o_0 : w8'.cell? ⟨w.heap.size, 0, none⟩ = some (.string a) := (HR_o.out.cell 0).trans rfl
      have c_o_1 : w8'.cell? ⟨w.heap.size, 1, none⟩ = some (.int .i64 (n1)) := (HR_o.out.cell 1).trans rfl
      have c_o_2 : w8'.cell? ⟨w.heap.size, 2, none⟩ = some (.int .i64 (3)) := (HR_o.out.cell 2).trans rfl
      have c_o_3 : w8'.cell? ⟨w.heap.size, 3, none⟩ = some (.int .i64 (n2)) := (HR_o.out.cell 3).trans rfl
      have c_o_4 : w8'.cell? ⟨w.heap.size, 4, none⟩ = some (.string ⟨#[]⟩) := (HR_o.out.cell 4).trans rfl
      have c_o_5 : w8'.cell? ⟨w.heap.size, 5, none⟩ = some (.string ⟨#[]⟩) := (HR_o.out.cell 5).trans rfl
      have c_o_6 : w8'.cell? ⟨w.heap.size, 6, none⟩ = some (.int .i64 0) := (HR_o.out.cell 6).trans rfl
      have c_o_7 : w8'.cell? ⟨w.heap.size, 7, none⟩ = some (.int .i64 0) := (HR_o.out.cell 7).trans rfl
      go_wp2
      exact bodyPost_ret (v := .tuple #[.agg #[.string a, .int .i64 (n1), .int .i64 (3), .int .i64 (n2), .string ⟨#[]⟩, .string ⟨#[]⟩, .int .i64 0, .int .i64 0], .bool false]) (by simp [results, Tryz.results23, go_sem, c_o_0, c_o_1, c_o_2, c_o_3, c_o_4, c_o_5, c_o_6, c_o_7]) rfl ⟨⟨a, n1, 3, n2, ⟨#[]⟩, ⟨#[]⟩, 0, 0⟩, _, rfl, ⟨Nat.le_trans HZa.out (by decide), zle, zle⟩, .inr ⟨HN.out, rfl⟩, HW.out⟩
 ·by_cases h7 : n = 7
  ·subst h7
   obtain ⟨a, b, c, d, k, m, z, rfl⟩ : ∃ a b c d k m z, P = [a, b, c, d, k, m, z] := by
    match P, hn with
    | [a, b, c, d, k, m, z], _ => exact ⟨a, b, c, d, k, m, z, rfl⟩
   clear hn
   obtain ⟨pb, po, rfl, hpc⟩ := SlS.pcs HSL.out (by simp)
   have HP : Hid (Pcs w2' pb po [a, b, c, d, k, m, z]) := Lib.hid hpc
   have npo : pb ≠ w.heap.size := Pcs.ne hpc (by simp) HR_o.out.box
   clear hpc HSL
   have HZa : Hid (a.size ≤ 4194304) := Lib.hid (HPZ.out a (by simp))
   have HZb : Hid (b.size ≤ 4194304) := Lib.hid (HPZ.out b (by simp))
   have HZc : Hid (c.size ≤ 4194304) := Lib.hid (HPZ.out c (by simp))
   have HZd : Hid (d.size ≤ 4194304) := Lib.hid (HPZ.out d (by simp))
   have HZk : Hid (k.size ≤ 4194304) := Lib.hid (HPZ.out k (by simp))
   have HZm : Hid (m.size ≤ 4194304) := Lib.hid (HPZ.out m (by simp))
   have HZz : Hid (z.size ≤ 4194304) := Lib.hid (HPZ.out z (by simp))
   clear HPZ
   have HRD' : Hid (readO s.data.toList = read7 a.data.toList b.data.toList c.data.toList d.data.toList k.data.toList m.data.toList z.data.toList) := HRD
   clear HRD
   have e_1 : w2'.cell? ⟨pb, po + 1, none⟩ = some (.string b) := HP.out 1 (by simp)
   go_wp2_with fail
   refine (evNumber_at b HZb.out w2' (HE0.out.ext HW.out) (HT0.out.ext HW.out)).mono ?_
   rintro e w3' ⟨n1, rfl, hn1, hbz⟩
   obtain ⟨o1, ho1⟩ : ∃ q9, (numO b.data.toList).isSome = q9 := ⟨_, rfl⟩
   rw [ho1]
   have HN1 := Lib.hid hn1
   have HO1 := Lib.hid ho1
   clear hn1 ho1
   replace HR_o := Lib.hid (HR_o.out.ext hbz)
   replace HP := Lib.hid (HP.out.ext hbz)
   replace HW := Lib.hid (ext_trans HW.out hbz)
   clear e_1
   clear hbz
   have e_2 : w3'.cell? ⟨pb, po + 2, none⟩ = some (.string c) := HP.out 2 (by simp)
   go_wp2_with fail
   refine (evNumber_at c HZc.out w3' (HE0.out.ext HW.out) (HT0.out.ext HW.out)).mono ?_
   rintro e w4' ⟨n2, rfl, hn2, hbz⟩
   obtain ⟨o2, ho2⟩ : ∃ q9, (numO c.data.toList).isSome = q9 := ⟨_, rfl⟩
   rw [ho2]
   have HN2 := Lib.hid hn2
   have HO2 := Lib.hid ho2
   clear hn2 ho2
   replace HR_o := Lib.hid (HR_o.out.ext hbz)
   replace HP := Lib.hid (HP.out.ext hbz)
   replace HW := Lib.hid (ext_trans HW.out hbz)
   clear e_2
   clear hbz
   have e_0 : w4'.cell? ⟨pb, po, none⟩ = some (.string a) := HP.out 0 (by simp)
   have lt_pb : pb < w4'.heap.size := HP.out.lt (by simp)
   go_upto_region 7 with (fail)
   refine wp_vr1 fun w5' hbz hR0 => ?_
   have lt_o_e : w.heap.size < w4'.heap.size := HR_o.out.lt
   have le_e : w.heap.size ≤ w4'.heap.size := HW.out.size
   replace HR_o := Lib.hid (HR_o.out.ext hbz)
   replace HP := Lib.hid (HP.out.ext hbz)
   replace HW := Lib.hid (ext_trans HW.out hbz)
   clear e_0
   clear hbz
   have HR_e : Hid (RH w5' w4'.heap.size #[.string a, .int .i64 (n1), .int .i64 0, .int .i64 (n2), .string ⟨#[]⟩, .string ⟨#[]⟩, .int .i64 0, .int .i64 0] 31) := Lib.hid hR0
   clear hR0
   generalize w4'.heap.size = b_e at *
   have e_0 : w5'.cell? ⟨pb, po, none⟩ = some (.string a) := HP.out 0 (by simp)
   obtain ⟨wa, hwa⟩ : ∃ z, wordsB a.data.toList = z := ⟨_, rfl⟩
   have HWA := Lib.hid hwa
   have HXR := Lib.hid (fun W9 => (by have h9 := flag_XisRow a (Nat.le_trans HZa.out (by decide)) W9; rw [hwa] at h9; exact h9 : Calls Tryz.prog 41 #[.string a] W9 fun e w' => e = .returned (.bool wa) ∧ W9 = w'))
   clear hwa
   go_wp2_with fail
   refine (HXR.out _).mono ?_
   rintro e w9 ⟨rfl, hw9⟩
   subst hw9
   clear HXR
   cases wa
   ·have HN : Hid (readO s.data.toList = none) := Lib.hid (HRD'.out.trans (read7_no (.inl HWA.out)))
    clear HR_e
    have c_o_0 : w5'.cell? ⟨w.heap.size, 0, none⟩ = some (.string ⟨#[]⟩) := (HR_o.out.cell 0).trans rfl
    have c_o_1 : w5'.cell? ⟨w.heap.size, 1, none⟩ = some (.int .i64 0) := (HR_o.out.cell 1).trans rfl
    have c_o_2 : w5'.cell? ⟨w.heap.size, 2, none⟩ = some (.int .i64 0) := (HR_o.out.cell 2).trans rfl
    have c_o_3 : w5'.cell? ⟨w.heap.size, 3, none⟩ = some (.int .i64 0) := (HR_o.out.cell 3).trans rfl
    have c_o_4 : w5'.cell? ⟨w.heap.size, 4, none⟩ = some (.string ⟨#[]⟩) := (HR_o.out.cell 4).trans rfl
    have c_o_5 : w5'.cell? ⟨w.heap.size, 5, none⟩ = some (.string ⟨#[]⟩) := (HR_o.out.cell 5).trans rfl
    have c_o_6 : w5'.cell? ⟨w.heap.size, 6, none⟩ = some (.int .i64 0) := (HR_o.out.cell 6).trans rfl
    have c_o_7 : w5'.cell? ⟨w.heap.size, 7, none⟩ = some (.int .i64 0) := (HR_o.out.cell 7).trans rfl
    have f_o_0 := HR_o.out.fre 0
    have f_o_1 := HR_o.out.fre 1
    have f_o_2 := HR_o.out.fre 2
    have f_o_3 := HR_o.out.fre 3
    have f_o_4 := HR_o.out.fre 4
    have f_o_5 := HR_o.out.fre 5
    have f_o_6 := HR_o.out.fre 6
    have f_o_7 := HR_o.out.fre 7
    go_wp2
    obtain ⟨w6', hX⟩ : ∃ Z9, Z9 = ((((((((w5'.setCell ⟨w.heap.size, 0, none⟩ (.string ⟨#[]⟩)).setCell ⟨w.heap.size, 1, none⟩ (.int .i64 0)).setCell ⟨w.heap.size, 2, none⟩ (.int .i64 0)).setCell ⟨w.heap.size, 3, none⟩ (.int .i64 0)).setCell ⟨w.heap.size, 4, none⟩ (.string ⟨#[]⟩)).setCell ⟨w.heap.size, 5, none⟩ (.string ⟨#[]⟩)).setCell ⟨w.heap.size, 6, none⟩ (.int .i64 0)).setCell ⟨w.heap.size, 7, none⟩ (.int .i64 0)) := ⟨_, rfl⟩
    rw [← hX]
    have n_o : Hid (RH w6' w.heap.size #[.string ⟨#[]⟩, .int .i64 0, .int .i64 0, .int .i64 0, .string ⟨#[]⟩, .string ⟨#[]⟩, .int .i64 0, .int .i64 0] 31) := by rw [hX]; exact Lib.hid (((((((((HR_o.out).set 0 (.string ⟨#[]⟩)).set 1 (.int .i64 0)).set 2 (.int .i64 0)).set 3 (.int .i64 0)).set 4 (.string ⟨#[]⟩)).set 5 (.string ⟨#[]⟩)).set 6 (.int .i64 0)).set 7 (.int .i64 0))
    have HK_ : ∀ p : Addr, p.block ≠ w.heap.size → w6'.cell? p = w5'.cell? p := fun p hp => by rw [hX]; exact (cs_vr hp).trans ((cs_vr hp).trans ((cs_vr hp).trans ((cs_vr hp).trans ((cs_vr hp).trans ((cs_vr hp).trans ((cs_vr hp).trans (cs_vr hp)))))))
    have n_HP : Hid (Pcs w6' pb po [a, b, c, d, k, m, z]) := Lib.hid (HP.out.far HR_o.out.box (show pb ≠ w.heap.size by omega) HK_)
    have nW : Hid (Below w.heap.size w w6') := by rw [hX]; exact Lib.hid (zzw (zzw (zzw (zzw (zzw (zzw (zzw (zzw (HW.out) (by omega)) (by omega)) (by omega)) (by omega)) (by omega)) (by omega)) (by omega)) (by omega))
    clear e_0 c_o_0 c_o_1 c_o_2 c_o_3 c_o_4 c_o_5 c_o_6 c_o_7 f_o_0 f_o_1 f_o_2 f_o_3 f_o_4 f_o_5 f_o_6 f_o_7
    clear hX HK_ HW HR_o HP
    have HR_o := n_o; clear n_o
    have HP := n_HP; clear n_HP
    have HW := nW; clear nW
    have c_o_0 : w6'.cell? ⟨w.heap.size, 0, none⟩ = some (.string ⟨#[]⟩) := (HR_o.out.cell 0).trans rfl
    have c_o_1 : w6'.cell? ⟨w.heap.size, 1, none⟩ = some (.int .i64 0) := (HR_o.out.cell 1).trans rfl
    have c_o_2 : w6'.cell? ⟨w.heap.size, 2, none⟩ = some (.int .i64 0) := (HR_o.out.cell 2).trans rfl
    have c_o_3 : w6'.cell? ⟨w.heap.size, 3, none⟩ = some (.int .i64 0) := (HR_o.out.cell 3).trans rfl
    have c_o_4 : w6'.cell? ⟨w.heap.size, 4, none⟩ = some (.string ⟨#[]⟩) := (HR_o.out.cell 4).trans rfl
    have c_o_5 : w6'.cell? ⟨w.heap.size, 5, none⟩ = some (.string ⟨#[]⟩) := (HR_o.out.cell 5).trans rfl
    have c_o_6 : w6'.cell? ⟨w.heap.size, 6, none⟩ = some (.int .i64 0) := (HR_o.out.cell 6).trans rfl
    have c_o_7 : w6'.cell? ⟨w.heap.size, 7, none⟩ = some (.int .i64 0) := (HR_o.out.cell 7).trans rfl
    exact bodyPost_ret (v := .tuple #[.agg #[.string ⟨#[]⟩, .int .i64 0, .int .i64 0, .int .i64 0, .string ⟨#[]⟩, .string ⟨#[]⟩, .int .i64 0, .int .i64 0], .bool false]) (by simp [results, Tryz.results23, go_sem, c_o_0, c_o_1, c_o_2, c_o_3, c_o_4, c_o_5, c_o_6, c_o_7]) rfl ⟨⟨⟨#[]⟩, 0, 0, 0, ⟨#[]⟩, ⟨#[]⟩, 0, 0⟩, _, rfl, ⟨zle, zle, zle⟩, .inr ⟨HN.out, rfl⟩, HW.out⟩
   ·cases o1
    ·have HN : Hid (readO s.data.toList = none) := Lib.hid (HRD'.out.trans (read7_no (.inr (.inl (num_none HO1.out)))))
     clear HR_e
     have c_o_0 : w5'.cell? ⟨w.heap.size, 0, none⟩ = some (.string ⟨#[]⟩) := (HR_o.out.cell 0).trans rfl
     have c_o_1 : w5'.cell? ⟨w.heap.size, 1, none⟩ = some (.int .i64 0) := (HR_o.out.cell 1).trans rfl
     have c_o_2 : w5'.cell? ⟨w.heap.size, 2, none⟩ = some (.int .i64 0) := (HR_o.out.cell 2).trans rfl
     have c_o_3 : w5'.cell? ⟨w.heap.size, 3, none⟩ = some (.int .i64 0) := (HR_o.out.cell 3).trans rfl
     have c_o_4 : w5'.cell? ⟨w.heap.size, 4, none⟩ = some (.string ⟨#[]⟩) := (HR_o.out.cell 4).trans rfl
     have c_o_5 : w5'.cell? ⟨w.heap.size, 5, none⟩ = some (.string ⟨#[]⟩) := (HR_o.out.cell 5).trans rfl
     have c_o_6 : w5'.cell? ⟨w.heap.size, 6, none⟩ = some (.int .i64 0) := (HR_o.out.cell 6).trans rfl
     have c_o_7 : w5'.cell? ⟨w.heap.size, 7, none⟩ = some (.int .i64 0) := (HR_o.out.cell 7).trans rfl
     have f_o_0 := HR_o.out.fre 0
     have f_o_1 := HR_o.out.fre 1
     have f_o_2 := HR_o.out.fre 2
     have f_o_3 := HR_o.out.fre 3
     have f_o_4 := HR_o.out.fre 4
     have f_o_5 := HR_o.out.fre 5
     have f_o_6 := HR_o.out.fre 6
     have f_o_7 := HR_o.out.fre 7
     go_wp2
     obtain ⟨w6', hX⟩ : ∃ Z9, Z9 = ((((((((w5'.setCell ⟨w.heap.size, 0, none⟩ (.string ⟨#[]⟩)).setCell ⟨w.heap.size, 1, none⟩ (.int .i64 0)).setCell ⟨w.heap.size, 2, none⟩ (.int .i64 0)).setCell ⟨w.heap.size, 3, none⟩ (.int .i64 0)).setCell ⟨w.heap.size, 4, none⟩ (.string ⟨#[]⟩)).setCell ⟨w.heap.size, 5, none⟩ (.string ⟨#[]⟩)).setCell ⟨w.heap.size, 6, none⟩ (.int .i64 0)).setCell ⟨w.heap.size, 7, none⟩ (.int .i64 0)) := ⟨_, rfl⟩
     rw [← hX]
     have n_o : Hid (RH w6' w.heap.size #[.string ⟨#[]⟩, .int .i64 0, .int .i64 0, .int .i64 0, .string ⟨#[]⟩, .string ⟨#[]⟩, .int .i64 0, .int .i64 0] 31) := by rw [hX]; exact Lib.hid (((((((((HR_o.out).set 0 (.string ⟨#[]⟩)).set 1 (.int .i64 0)).set 2 (.int .i64 0)).set 3 (.int .i64 0)).set 4 (.string ⟨#[]⟩)).set 5 (.string ⟨#[]⟩)).set 6 (.int .i64 0)).set 7 (.int .i64 0))
     have HK_ : ∀ p : Addr, p.block ≠ w.heap.size → w6'.cell? p = w5'.cell? p := fun p hp => by rw [hX]; exact (cs_vr hp).trans ((cs_vr hp).trans ((cs_vr hp).trans ((cs_vr hp).trans ((cs_vr hp).trans ((cs_vr hp).trans ((cs_vr hp).trans (cs_vr hp)))))))
     have n_HP : Hid (Pcs w6' pb po [a, b, c, d, k, m, z]) := Lib.hid (HP.out.far HR_o.out.box (show pb ≠ w.heap.size by omega) HK_)
     have nW : Hid (Below w.heap.size w w6') := by rw [hX]; exact Lib.hid (zzw (zzw (zzw (zzw (zzw (zzw (zzw (zzw (HW.out) (by omega)) (by omega)) (by omega)) (by omega)) (by omega)) (by omega)) (by omega)) (by omega))
     clear e_0 c_o_0 c_o_1 c_o_2 c_o_3 c_o_4 c_o_5 c_o_6 c_o_7 f_o_0 f_o_1 f_o_2 f_o_3 f_o_4 f_o_5 f_o_6 f_o_7
     clear hX HK_ HW HR_o HP
     have HR_o := n_o; clear n_o
     have HP := n_HP; clear n_HP
     have HW := nW; clear nW
     have c_o_0 : w6'.cell? ⟨w.heap.size, 0, none⟩ = some (.string ⟨#[]⟩) := (HR_o.out.cell 0).trans rfl
     have c_o_1 : w6'.cell? ⟨w.heap.size, 1, none⟩ = some (.int .i64 0) := (HR_o.out.cell 1).trans rfl
     have c_o_2 : w6'.cell? ⟨w.heap.size, 2, none⟩ = some (.int .i64 0) := (HR_o.out.cell 2).trans rfl
     have c_o_3 : w6'.cell? ⟨w.heap.size, 3, none⟩ = some (.int .i64 0) := (HR_o.out.cell 3).trans rfl
     have c_o_4 : w6'.cell? ⟨w.heap.size, 4, none⟩ = some (.string ⟨#[]⟩) := (HR_o.out.cell 4).trans rfl
     have c_o_5 : w6'.cell? ⟨w.heap.size, 5, none⟩ = some (.string ⟨#[]⟩) := (HR_o.out.cell 5).trans rfl
     have c_o_6 : w6'.cell? ⟨w.heap.size, 6, none⟩ = some (.int .i64 0) := (HR_o.out.cell 6).trans rfl
     have c_o_7 : w6'.cell? ⟨w.heap.size, 7, none⟩ = some (.int .i64 0) := (HR_o.out.cell 7).trans rfl
     exact bodyPost_ret (v := .tuple #[.agg #[.string ⟨#[]⟩, .int .i64 0, .int .i64 0, .int .i64 0, .string ⟨#[]⟩, .string ⟨#[]⟩, .int .i64 0, .int .i64 0], .bool false]) (by simp [results, Tryz.results23, go_sem, c_o_0, c_o_1, c_o_2, c_o_3, c_o_4, c_o_5, c_o_6, c_o_7]) rfl ⟨⟨⟨#[]⟩, 0, 0, 0, ⟨#[]⟩, ⟨#[]⟩, 0, 0⟩, _, rfl, ⟨zle, zle, zle⟩, .inr ⟨HN.out, rfl⟩, HW.out⟩
    ·cases o2
     ·have HN : Hid (readO s.data.toList = none) := Lib.hid (HRD'.out.trans (read7_no (.inr (.inr (.inl (num_none HO2.out))))))
      clear HR_e
      have c_o_0 : w5'.cell? ⟨w.heap.size, 0, none⟩ = some (.string ⟨#[]⟩) := (HR_o.out.cell 0).trans rfl
      have c_o_1 : w5'.cell? ⟨w.heap.size, 1, none⟩ = some (.int .i64 0) := (HR_o.out.cell 1).trans rfl
      have c_o_2 : w5'.cell? ⟨w.heap.size, 2, none⟩ = some (.int .i64 0) := (HR_o.out.cell 2).trans rfl
      have c_o_3 : w5'.cell? ⟨w.heap.size, 3, none⟩ = some (.int .i64 0) := (HR_o.out.cell 3).trans rfl
      have c_o_4 : w5'.cell? ⟨w.heap.size, 4, none⟩ = some (.string ⟨#[]⟩) := (HR_o.out.cell 4).trans rfl
      have c_o_5 : w5'.cell? ⟨w.heap.size, 5, none⟩ = some (.string ⟨#[]⟩) := (HR_o.out.cell 5).trans rfl
      have c_o_6 : w5'.cell? ⟨w.heap.size, 6, none⟩ = some (.int .i64 0) := (HR_o.out.cell 6).trans rfl
      have c_o_7 : w5'.cell? ⟨w.heap.size, 7, none⟩ = some (.int .i64 0) := (HR_o.out.cell 7).trans rfl
      have f_o_0 := HR_o.out.fre 0
      have f_o_1 := HR_o.out.fre 1
      have f_o_2 := HR_o.out.fre 2
      have f_o_3 := HR_o.out.fre 3
      have f_o_4 := HR_o.out.fre 4
      have f_o_5 := HR_o.out.fre 5
      have f_o_6 := HR_o.out.fre 6
      have f_o_7 := HR_o.out.fre 7
      go_wp2
      obtain ⟨w6', hX⟩ : ∃ Z9, Z9 = ((((((((w5'.setCell ⟨w.heap.size, 0, none⟩ (.string ⟨#[]⟩)).setCell ⟨w.heap.size, 1, none⟩ (.int .i64 0)).setCell ⟨w.heap.size, 2, none⟩ (.int .i64 0)).setCell ⟨w.heap.size, 3, none⟩ (.int .i64 0)).setCell ⟨w.heap.size, 4, none⟩ (.string ⟨#[]⟩)).setCell ⟨w.heap.size, 5, none⟩ (.string ⟨#[]⟩)).setCell ⟨w.heap.size, 6, none⟩ (.int .i64 0)).setCell ⟨w.heap.size, 7, none⟩ (.int .i64 0)) := ⟨_, rfl⟩
      rw [← hX]
      have n_o : Hid (RH w6' w.heap.size #[.string ⟨#[]⟩, .int .i64 0, .int .i64 0, .int .i64 0, .string ⟨#[]⟩, .string ⟨#[]⟩, .int .i64 0, .int .i64 0] 31) := by rw [hX]; exact Lib.hid (((((((((HR_o.out).set 0 (.string ⟨#[]⟩)).set 1 (.int .i64 0)).set 2 (.int .i64 0)).set 3 (.int .i64 0)).set 4 (.string ⟨#[]⟩)).set 5 (.string ⟨#[]⟩)).set 6 (.int .i64 0)).set 7 (.int .i64 0))
      have HK_ : ∀ p : Addr, p.block ≠ w.heap.size → w6'.cell? p = w5'.cell? p := fun p hp => by rw [hX]; exact (cs_vr hp).trans ((cs_vr hp).trans ((cs_vr hp).trans ((cs_vr hp).trans ((cs_vr hp).trans ((cs_vr hp).trans ((cs_vr hp).trans (cs_vr hp)))))))
      have n_HP : Hid (Pcs w6' pb po [a, b, c, d, k, m, z]) := Lib.hid (HP.out.far HR_o.out.box (show pb ≠ w.heap.size by omega) HK_)
      have nW : Hid (Below w.heap.size w w6') := by rw [hX]; exact Lib.hid (zzw (zzw (zzw (zzw (zzw (zzw (zzw (zzw (HW.out) (by omega)) (by omega)) (by omega)) (by omega)) (by omega)) (by omega)) (by omega)) (by omega))
      clear e_0 c_o_0 c_o_1 c_o_2 c_o_3 c_o_4 c_o_5 c_o_6 c_o_7 f_o_0 f_o_1 f_o_2 f_o_3 f_o_4 f_o_5 f_o_6 f_o_7
      clear hX HK_ HW HR_o HP
      have HR_o := n_o; clear n_o
      have HP := n_HP; clear n_HP
      have HW := nW; clear nW
      have c_o_0 : w6'.cell? ⟨w.heap.size, 0, none⟩ = some (.string ⟨#[]⟩) := (HR_o.out.cell 0).trans rfl
      have c_o_1 : w6'.cell? ⟨w.heap.size, 1, none⟩ = some (.int .i64 0) := (HR_o.out.cell 1).trans rfl
      have c_o_2 : w6'.cell? ⟨w.heap.size, 2, none⟩ = some (.int .i64 0) := (HR_o.out.cell 2).trans rfl
      have c_o_3 : w6'.cell? ⟨w.heap.size, 3, none⟩ = some (.int .i64 0) := (HR_o.out.cell 3).trans rfl
      have c_o_4 : w6'.cell? ⟨w.heap.size, 4, none⟩ = some (.string ⟨#[]⟩) := (HR_o.out.cell 4).trans rfl
      have c_o_5 : w6'.cell? ⟨w.heap.size, 5, none⟩ = some (.string ⟨#[]⟩) := (HR_o.out.cell 5).trans rfl
      have c_o_6 : w6'.cell? ⟨w.heap.size, 6, none⟩ = some (.int .i64 0) := (HR_o.out.cell 6).trans rfl
      have c_o_7 : w6'.cell? ⟨w.heap.size, 7, none⟩ = some (.int .i64 0) := (HR_o.out.cell 7).trans rfl
      exact bodyPost_ret (v := .tuple #[.agg #[.string ⟨#[]⟩, .int .i64 0, .int .i64 0, .int .i64 0, .string ⟨#[]⟩, .string ⟨#[]⟩, .int .i64 0, .int .i64 0], .bool false]) (by simp [results, Tryz.results23, go_sem, c_o_0, c_o_1, c_o_2, c_o_3, c_o_4, c_o_5, c_o_6, c_o_7]) rfl ⟨⟨⟨#[]⟩, 0, 0, 0, ⟨#[]⟩, ⟨#[]⟩, 0, 0⟩, _, rfl, ⟨zle, zle, zle⟩, .inr ⟨HN.out, rfl⟩, HW.out⟩
     ·have HB1 := Lib.hid (num_get HO1.out HN1.out)
      have HB2 := Lib.hid (num_get HO2.out HN2.out)
      clear HO1 HN1 HO2 HN2
      have e_6 : w5'.cell? ⟨pb, po + 6, none⟩ = some (.string z) := HP.out 6 (by simp)
      go_wp2_with fail
      refine (evNumber_at z HZz.out w5' (HE0.out.ext HW.out) (HT0.out.ext HW.out)).mono ?_
      rintro e w6' ⟨n3, rfl, hn3, hbz⟩
      obtain ⟨o3, ho3⟩ : ∃ q9, (numO z.data.toList).isSome = q9 := ⟨_, rfl⟩
      rw [ho3]
      have HN3 := Lib.hid hn3
      have HO3 := Lib.hid ho3
      clear hn3 ho3
      replace HR_o := Lib.hid (HR_o.out.ext hbz)
      replace HR_e := Lib.hid (HR_e.out.ext hbz)
      replace HP := Lib.hid (HP.out.ext hbz)
      replace HW := Lib.hid (ext_trans HW.out hbz)
      clear e_0 e_6
      clear hbz
      have e_3 : w6'.cell? ⟨pb, po + 3, none⟩ = some (.string d) := HP.out 3 (by simp)
      have c_e_0 : w6'.cell? ⟨b_e, 0, none⟩ = some (.string a) := (HR_e.out.cell 0).trans rfl
      have c_e_1 : w6'.cell? ⟨b_e, 1, none⟩ = some (.int .i64 (n1)) := (HR_e.out.cell 1).trans rfl
      have c_e_2 : w6'.cell? ⟨b_e, 2, none⟩ = some (.int .i64 0) := (HR_e.out.cell 2).trans rfl
      have c_e_3 : w6'.cell? ⟨b_e, 3, none⟩ = some (.int .i64 (n2)) := (HR_e.out.cell 3).trans rfl
      have c_e_4 : w6'.cell? ⟨b_e, 4, none⟩ = some (.string ⟨#[]⟩) := (HR_e.out.cell 4).trans rfl
      have c_e_5 : w6'.cell? ⟨b_e, 5, none⟩ = some (.string ⟨#[]⟩) := (HR_e.out.cell 5).trans rfl
      have c_e_6 : w6'.cell? ⟨b_e, 6, none⟩ = some (.int .i64 0) := (HR_e.out.cell 6).trans rfl
      have c_e_7 : w6'.cell? ⟨b_e, 7, none⟩ = some (.int .i64 0) := (HR_e.out.cell 7).trans rfl
      have f_e_0 := HR_e.out.fre 0
      have f_e_1 := HR_e.out.fre 1
      have f_e_2 := HR_e.out.fre 2
      have f_e_3 := HR_e.out.fre 3
      have f_e_4 := HR_e.out.fre 4
      have f_e_5 := HR_e.out.fre 5
      have f_e_6 := HR_e.out.fre 6
      have f_e_7 := HR_e.out.fre 7
      by_cases hd : d.data.toList = expL
      ·have q1 : (d.toList == [101, 120, 112, 111, 115, 117, 114, 101]) = true := by rw [ByteArray.toList_eq]; exact beq_iff_eq.2 hd
       go_upto_region 19 with (fail)
       obtain ⟨w7', hX⟩ : ∃ Z9, Z9 = ((w6'.setCell ⟨b_e, 2, none⟩ (.int .i64 (1))).setCell ⟨b_e, 6, none⟩ (.int .i64 (n3))) := ⟨_, rfl⟩
       rw [← hX]
       have n_e : Hid (RH w7' b_e #[.string a, .int .i64 (n1), .int .i64 (1), .int .i64 (n2), .string ⟨#[]⟩, .string ⟨#[]⟩, .int .i64 (n3), .int .i64 0] 31) := by rw [hX]; exact Lib.hid (((HR_e.out).set 2 (.int .i64 (1))).set 6 (.int .i64 (n3)))
       have n_o : Hid (RH w7' w.heap.size #[.string ⟨#[]⟩, .int .i64 0, .int .i64 0, .int .i64 0, .string ⟨#[]⟩, .string ⟨#[]⟩, .int .i64 0, .int .i64 0] 31) := by rw [hX]; exact Lib.hid (zzo (zzo (HR_o.out) (by omega)) (by omega))
       have HK_ : ∀ p : Addr, p.block ≠ b_e → w7'.cell? p = w6'.cell? p := fun p hp => by rw [hX]; exact (cs_vr hp).trans (cs_vr hp)
       have n_HP : Hid (Pcs w7' pb po [a, b, c, d, k, m, z]) := Lib.hid (HP.out.far HR_e.out.box (show pb ≠ b_e by omega) HK_)
       have nW : Hid (Below w.heap.size w w7') := by rw [hX]; exact Lib.hid (zzw (zzw (HW.out) (by omega)) (by omega))
       clear e_3 c_e_0 c_e_1 c_e_2 c_e_3 c_e_4 c_e_5 c_e_6 c_e_7 f_e_0 f_e_1 f_e_2 f_e_3 f_e_4 f_e_5 f_e_6 f_e_7
       clear hX HK_ HW HR_o HR_e HP
       have HR_o := n_o; clear n_o
       have HR_e := n_e; clear n_e
       have HP := n_HP; clear n_HP
       have HW := nW; clear nW
       obtain ⟨w8', hZ0⟩ : ∃ Z9, Z9 = w7'.drew := ⟨_, rfl⟩
       have r0_o : Hid (RH w8' w.heap.size #[.string ⟨#[]⟩, .int .i64 0, .int .i64 0, .int .i64 0, .string ⟨#[]⟩, .string ⟨#[]⟩, .int .i64 0, .int .i64 0] 31) := by rw [hZ0]; exact HR_o
       have r0_e : Hid (RH w8' b_e #[.string a, .int .i64 (n1), .int .i64 (1), .int .i64 (n2), .string ⟨#[]⟩, .string ⟨#[]⟩, .int .i64 (n3), .int .i64 0] 31) := by rw [hZ0]; exact HR_e
       have x0_HP : Hid (Pcs w8' pb po [a, b, c, d, k, m, z]) := by rw [hZ0]; exact HP
       have HW0 : Hid (Below w.heap.size w w8') := by rw [hZ0]; have h9 := HW.out; exact Lib.hid ⟨h9.1, h9.2, h9.3, h9.4, h9.5⟩
       obtain ⟨w9', hZ1⟩ : ∃ Z9, Z9 = (w8'.setCell ⟨b_e, 4, none⟩ (.string k)) := ⟨_, rfl⟩
       have r1_o : Hid (RH w9' w.heap.size #[.string ⟨#[]⟩, .int .i64 0, .int .i64 0, .int .i64 0, .string ⟨#[]⟩, .string ⟨#[]⟩, .int .i64 0, .int .i64 0] 31) := by rw [hZ1]; exact Lib.hid (zzo (r0_o.out) (by omega))
       have r1_e : Hid (RH w9' b_e #[.string a, .int .i64 (n1), .int .i64 (1), .int .i64 (n2), .string k, .string ⟨#[]⟩, .int .i64 (n3), .int .i64 0] 31) := by rw [hZ1]; exact Lib.hid ((r0_e.out).set 4 (.string k))
       have HK_ : ∀ p : Addr, p.block ≠ b_e → w9'.cell? p = w8'.cell? p := fun p hp => by rw [hZ1]; exact cs_vr hp
       have x1_HP : Hid (Pcs w9' pb po [a, b, c, d, k, m, z]) := Lib.hid (x0_HP.out.far r0_e.out.box (show pb ≠ b_e by omega) HK_)
       clear HK_
       have HW1 : Hid (Below w.heap.size w w9') := by rw [hZ1]; exact Lib.hid (zzw (HW0.out) (by omega))
       obtain ⟨w10', hZ2⟩ : ∃ Z9, Z9 = (w9'.setCell ⟨b_e, 5, none⟩ (.string m)) := ⟨_, rfl⟩
       have r2_o : Hid (RH w10' w.heap.size #[.string ⟨#[]⟩, .int .i64 0, .int .i64 0, .int .i64 0, .string ⟨#[]⟩, .string ⟨#[]⟩, .int .i64 0, .int .i64 0] 31) := by rw [hZ2]; exact Lib.hid (zzo (r1_o.out) (by omega))
       have r2_e : Hid (RH w10' b_e #[.string a, .int .i64 (n1), .int .i64 (1), .int .i64 (n2), .string k, .string m, .int .i64 (n3), .int .i64 0] 31) := by rw [hZ2]; exact Lib.hid ((r1_e.out).set 5 (.string m))
       have HK_ : ∀ p : Addr, p.block ≠ b_e → w10'.cell? p = w9'.cell? p := fun p hp => by rw [hZ2]; exact cs_vr hp
       have x2_HP : Hid (Pcs w10' pb po [a, b, c, d, k, m, z]) := Lib.hid (x1_HP.out.far r1_e.out.box (show pb ≠ b_e by omega) HK_)
       clear HK_
       have HW2 : Hid (Below w.heap.size w w10') := by rw [hZ2]; exact Lib.hid (zzw (HW1.out) (by omega))
       have HCZ : ∀ k9, k9 ≤ 2 → (fun w' : World => w'.cell? ⟨pb, po + 4, none⟩ = some (.string k) ∧ w'.cell? ⟨pb, po + 5, none⟩ = some (.string m)) ([w8', w9', w10'].getD k9 w7') := fun k9 hk9 => by
        match k9, hk9 with
        | 0, _ => exact ⟨x0_HP.out 4 (by simp), x0_HP.out 5 (by simp)⟩
        | 1, _ => exact ⟨x1_HP.out 4 (by simp), x1_HP.out 5 (by simp)⟩
        | 2, _ => exact ⟨x2_HP.out 4 (by simp), x2_HP.out 5 (by simp)⟩
        | k9 + 3, h => omega
       have HZ0 := Lib.hid hZ0
       have HZ1 := Lib.hid hZ1
       have HZ2 := Lib.hid hZ2
       clear hZ0 hZ1 hZ2
       refine Grow.wp_region_stores 10 2 [w8', w9', w10'] (fun w' => w'.cell? ⟨pb, po + 4, none⟩ = some (.string k) ∧ w'.cell? ⟨pb, po + 5, none⟩ = some (.string m)) [fun v => v = .slice (some ⟨pb, po, none⟩) 7 cp, fun v => v = .pointer (some ⟨pb, po + 4, none⟩), fun v => v = .string k, fun v => v = .slice (some ⟨pb, po, none⟩) 7 cp, fun v => v = .pointer (some ⟨pb, po + 5, none⟩), fun v => v = .string m, fun v => v = .pointer (some ⟨b_e, 4, none⟩), fun _ => True, fun v => v = .pointer (some ⟨b_e, 5, none⟩), fun _ => True] [[], [0], [1], [], [3], [4], [], [6, 2], [], [8, 5]] [none, none, none, none, none, none, none, some 0, none, some 1] (by kernel_rfl) (by kernel_rfl) HZ0.out HCZ ⟨?s0k1, ?s1k1, ?s2k1, ?s3k1, ?s4k1, ?s5k1, ?s6k1, ?s7k1, ?s8k1, ?s9k1, trivial⟩ ?_
       all_goals clear HCZ
       case s0k1 =>
        intro w' hC 
        show wpList _ _ _ _ _ _
        go_wp2
        exact ⟨rfl, rfl, rfl⟩
       case s1k1 =>
        intro w' hC v1 hv1
        obtain rfl : v1 = _ := hv1
        obtain ⟨e4, -⟩ := hC
        show wpList _ _ _ _ _ _
        simp only [Grow.dstOf, zz1, zz3, zz4, Act.put, zz5, zz6, zz7]
        go_wp2
        exact ⟨rfl, rfl, rfl⟩
       case s2k1 =>
        intro w' hC v1 hv1
        obtain rfl : v1 = _ := hv1
        obtain ⟨e4, -⟩ := hC
        show wpList _ _ _ _ _ _
        simp only [Grow.dstOf, zz1, zz2, zz3, zz4, Act.put, zz5, zz6, zz7]
        go_wp2
        exact ⟨rfl, rfl, rfl⟩
       case s3k1 =>
        intro w' hC 
        show wpList _ _ _ _ _ _
        go_wp2
        exact ⟨rfl, rfl, rfl⟩
       case s4k1 =>
        intro w' hC v1 hv1
        obtain rfl : v1 = _ := hv1
        obtain ⟨-, e5⟩ := hC
        show wpList _ _ _ _ _ _
        simp only [Grow.dstOf, zz1, zz2, zz3, zz4, Act.put, zz5, zz6, zz7]
        go_wp2
        exact ⟨rfl, rfl, rfl⟩
       case s5k1 =>
        intro w' hC v1 hv1
        obtain rfl : v1 = _ := hv1
        obtain ⟨-, e5⟩ := hC
        show wpList _ _ _ _ _ _
        simp only [Grow.dstOf, zz1, zz2, zz3, zz4, Act.put, zz5, zz6, zz7]
        go_wp2
        exact ⟨rfl, rfl, rfl⟩
       case s6k1 =>
        intro w' hC 
        show wpList _ _ _ _ _ _
        go_wp2
        exact ⟨rfl, rfl, rfl⟩
       case s7k1 =>
        intro v1 hv1 v2 hv2
        obtain rfl : v1 = _ := hv1
        obtain rfl : v2 = _ := hv2
        have g4 : w8'.cell? ⟨b_e, 4, none⟩ = some (.string ⟨#[]⟩) := (r0_e.out.cell 4).trans rfl
        have f4 := r0_e.out.fre 4
        show wpList _ _ _ _ _ w8'
        simp only [Grow.dstOf, zz1, zz2, zz3, zz4, Act.put, zz5, zz6, zz7]
        go_wp2
        exact ⟨trivial, HZ1.out.symm, rfl⟩
       case s8k1 =>
        intro w' hC 
        show wpList _ _ _ _ _ _
        go_wp2
        exact ⟨rfl, rfl, rfl⟩
       case s9k1 =>
        intro v1 hv1 v2 hv2
        obtain rfl : v1 = _ := hv1
        obtain rfl : v2 = _ := hv2
        have g5 : w9'.cell? ⟨b_e, 5, none⟩ = some (.string ⟨#[]⟩) := (r1_e.out.cell 5).trans rfl
        have f5 := r1_e.out.fre 5
        show wpList _ _ _ _ _ w9'
        simp only [Grow.dstOf, zz1, zz2, zz3, zz4, Act.put, zz5, zz6, zz7]
        go_wp2
        exact ⟨trivial, HZ2.out.symm, rfl⟩
       intro u0 hu0 u1 hu1 u2 hu2 u3 hu3 u4 hu4 u5 hu5 u6 hu6 u7 hu7 u8 hu8 u9 hu9
       refine Grow.TailV.fin w10' rfl ?_
       simp only [Act.put, zz5, zz6, zz7]
       replace HW := HW2
       clear HW0 HW1 HW2
       replace HR_o := r2_o
       clear r0_o r1_o r2_o
       replace HR_e := r2_e
       clear r0_e r1_e r2_e
       replace HP := x2_HP
       clear x0_HP x1_HP x2_HP
       clear hu0 hu1 hu2 hu3 hu4 hu5 hu6 hu7 hu8 hu9 HZ0 HZ1 HZ2
       obtain ⟨sk, hsk⟩ : ∃ z, seenB k.data.toList = z := ⟨_, rfl⟩
       obtain ⟨wm, hwm⟩ : ∃ z, wordsB m.data.toList = z := ⟨_, rfl⟩
       have HSK := Lib.hid hsk
       have HWM := Lib.hid hwm
       have HXK := Lib.hid (fun W9 => (by have h9 := event_isBytes k (Nat.le_trans HZk.out (by decide)) W9; rw [hsk] at h9; exact h9 : Calls Tryz.prog 42 #[.string k] W9 fun e w' => e = .returned (.bool sk) ∧ W9 = w'))
       have HXM := Lib.hid (fun W9 => (by have h9 := flag_XisRow m (Nat.le_trans HZm.out (by decide)) W9; rw [hwm] at h9; exact h9 : Calls Tryz.prog 41 #[.string m] W9 fun e w' => e = .returned (.bool wm) ∧ W9 = w'))
       clear hsk hwm
       obtain ⟨bk, hbk⟩ : ∃ z, (o3 && sk) = z := ⟨_, rfl⟩
       obtain ⟨bb, hbb⟩ : ∃ z, (bk && wm) = z := ⟨_, rfl⟩
       have HBK := Lib.hid hbk
       have HBB := Lib.hid hbb
       clear hbk hbb
       go_upto_region 20 with (fail)
       obtain ⟨w11', hZ0⟩ : ∃ Z9, Z9 = w10'.drew := ⟨_, rfl⟩
       have r0_o : Hid (RH w11' w.heap.size #[.string ⟨#[]⟩, .int .i64 0, .int .i64 0, .int .i64 0, .string ⟨#[]⟩, .string ⟨#[]⟩, .int .i64 0, .int .i64 0] 31) := by rw [hZ0]; exact HR_o
       have r0_e : Hid (RH w11' b_e #[.string a, .int .i64 (n1), .int .i64 (1), .int .i64 (n2), .string k, .string m, .int .i64 (n3), .int .i64 0] 31) := by rw [hZ0]; exact HR_e
       have x0_HP : Hid (Pcs w11' pb po [a, b, c, d, k, m, z]) := by rw [hZ0]; exact HP
       have HW0 : Hid (Below w.heap.size w w11') := by rw [hZ0]; have h9 := HW.out; exact Lib.hid ⟨h9.1, h9.2, h9.3, h9.4, h9.5⟩
       obtain ⟨w12', hZ1⟩ : ∃ Z9, Z9 = ((((((((w11'.setCell ⟨w.heap.size, 0, none⟩ (.string a)).setCell ⟨w.heap.size, 1, none⟩ (.int .i64 (n1))).setCell ⟨w.heap.size, 2, none⟩ (.int .i64 (1))).setCell ⟨w.heap.size, 3, none⟩ (.int .i64 (n2))).setCell ⟨w.heap.size, 4, none⟩ (.string k)).setCell ⟨w.heap.size, 5, none⟩ (.string m)).setCell ⟨w.heap.size, 6, none⟩ (.int .i64 (n3))).setCell ⟨w.heap.size, 7, none⟩ (.int .i64 0)) := ⟨_, rfl⟩
       have r1_o : Hid (RH w12' w.heap.size #[.string a, .int .i64 (n1), .int .i64 (1), .int .i64 (n2), .string k, .string m, .int .i64 (n3), .int .i64 0] 31) := by rw [hZ1]; exact Lib.hid (((((((((r0_o.out).set 0 (.string a)).set 1 (.int .i64 (n1))).set 2 (.int .i64 (1))).set 3 (.int .i64 (n2))).set 4 (.string k)).set 5 (.string m)).set 6 (.int .i64 (n3))).set 7 (.int .i64 0))
       have r1_e : Hid (RH w12' b_e #[.string a, .int .i64 (n1), .int .i64 (1), .int .i64 (n2), .string k, .string m, .int .i64 (n3), .int .i64 0] 31) := by rw [hZ1]; exact Lib.hid (zzo (zzo (zzo (zzo (zzo (zzo (zzo (zzo (r0_e.out) (by omega)) (by omega)) (by omega)) (by omega)) (by omega)) (by omega)) (by omega)) (by omega))
       have HK_ : ∀ p : Addr, p.block ≠ w.heap.size → w12'.cell? p = w11'.cell? p := fun p hp => by rw [hZ1]; exact (cs_vr hp).trans ((cs_vr hp).trans ((cs_vr hp).trans ((cs_vr hp).trans ((cs_vr hp).trans ((cs_vr hp).trans ((cs_vr hp).trans (cs_vr hp)))))))
       have x1_HP : Hid (Pcs w12' pb po [a, b, c, d, k, m, z]) := Lib.hid (x0_HP.out.far r0_o.out.box (show pb ≠ w.heap.size by omega) HK_)
       clear HK_
       have HW1 : Hid (Below w.heap.size w w12') := by rw [hZ1]; exact Lib.hid (zzw (zzw (zzw (zzw (zzw (zzw (zzw (zzw (HW0.out) (by omega)) (by omega)) (by omega)) (by omega)) (by omega)) (by omega)) (by omega)) (by omega))
       have HCZ : ∀ k9, k9 ≤ 1 → (fun w' : World => w'.cell? ⟨b_e, 0, none⟩ = some (.string a) ∧ w'.cell? ⟨b_e, 1, none⟩ = some (.int .i64 (n1)) ∧ w'.cell? ⟨b_e, 2, none⟩ = some (.int .i64 (1)) ∧ w'.cell? ⟨b_e, 3, none⟩ = some (.int .i64 (n2)) ∧ w'.cell? ⟨b_e, 4, none⟩ = some (.string k) ∧ w'.cell? ⟨b_e, 5, none⟩ = some (.string m) ∧ w'.cell? ⟨b_e, 6, none⟩ = some (.int .i64 (n3)) ∧ w'.cell? ⟨b_e, 7, none⟩ = some (.int .i64 0) ∧ w'.cell? ⟨pb, po + 4, none⟩ = some (.string k) ∧ w'.cell? ⟨pb, po + 5, none⟩ = some (.string m)) ([w11', w12'].getD k9 w10') := fun k9 hk9 => by
        match k9, hk9 with
        | 0, _ => exact ⟨(r0_e.out.cell 0).trans rfl, (r0_e.out.cell 1).trans rfl, (r0_e.out.cell 2).trans rfl, (r0_e.out.cell 3).trans rfl, (r0_e.out.cell 4).trans rfl, (r0_e.out.cell 5).trans rfl, (r0_e.out.cell 6).trans rfl, (r0_e.out.cell 7).trans rfl, x0_HP.out 4 (by simp), x0_HP.out 5 (by simp)⟩
        | 1, _ => exact ⟨(r1_e.out.cell 0).trans rfl, (r1_e.out.cell 1).trans rfl, (r1_e.out.cell 2).trans rfl, (r1_e.out.cell 3).trans rfl, (r1_e.out.cell 4).trans rfl, (r1_e.out.cell 5).trans rfl, (r1_e.out.cell 6).trans rfl, (r1_e.out.cell 7).trans rfl, x1_HP.out 4 (by simp), x1_HP.out 5 (by simp)⟩
        | k9 + 2, h => omega
       have HZ0 := Lib.hid hZ0
       have HZ1 := Lib.hid hZ1
       clear hZ0 hZ1
       refine Grow.wp_region_stores 16 1 [w11', w12'] (fun w' => w'.cell? ⟨b_e, 0, none⟩ = some (.string a) ∧ w'.cell? ⟨b_e, 1, none⟩ = some (.int .i64 (n1)) ∧ w'.cell? ⟨b_e, 2, none⟩ = some (.int .i64 (1)) ∧ w'.cell? ⟨b_e, 3, none⟩ = some (.int .i64 (n2)) ∧ w'.cell? ⟨b_e, 4, none⟩ = some (.string k) ∧ w'.cell? ⟨b_e, 5, none⟩ = some (.string m) ∧ w'.cell? ⟨b_e, 6, none⟩ = some (.int .i64 (n3)) ∧ w'.cell? ⟨b_e, 7, none⟩ = some (.int .i64 0) ∧ w'.cell? ⟨pb, po + 4, none⟩ = some (.string k) ∧ w'.cell? ⟨pb, po + 5, none⟩ = some (.string m)) [fun v => v = .agg #[.string a, .int .i64 (n1), .int .i64 (1), .int .i64 (n2), .string k, .string m, .int .i64 (n3), .int .i64 0], fun v => v = .bool o3, fun v => v = .bool o3, fun v => o3 = true → v = .slice (some ⟨pb, po, none⟩) 7 cp, fun v => o3 = true → v = .pointer (some ⟨pb, po + 4, none⟩), fun v => o3 = true → v = .string k, fun v => o3 = true → v = .bool sk, fun v => v = .bool bk, fun v => v = .bool bk, fun v => bk = true → v = .slice (some ⟨pb, po, none⟩) 7 cp, fun v => bk = true → v = .pointer (some ⟨pb, po + 5, none⟩), fun v => bk = true → v = .string m, fun v => bk = true → v = .bool wm, fun v => v = .bool bb, fun _ => True, fun v => v = .bool bb] [[], [], [1], [2], [3, 2], [4, 2], [5, 2], [2, 6], [7], [8], [9, 8], [10, 8], [11, 8], [8, 12], [0], [13]] [none, none, none, none, none, none, none, none, none, none, none, none, none, none, some 0, none] (by kernel_rfl) (by kernel_rfl) HZ0.out HCZ ⟨?s0f1, ?s1f1, ?s2f1, ?s3f1, ?s4f1, ?s5f1, ?s6f1, ?s7f1, ?s8f1, ?s9f1, ?s10f1, ?s11f1, ?s12f1, ?s13f1, ?s14f1, ?s15f1, trivial⟩ ?_
       all_goals clear HCZ
       case s0f1 =>
        intro w' hC 
        obtain ⟨ce0, ce1, ce2, ce3, ce4, ce5, ce6, ce7, -, -⟩ := hC
        show wpList _ _ _ _ _ _
        go_wp2
        exact ⟨rfl, rfl, rfl⟩
       case s1f1 =>
        intro w' hC 
        show wpList _ _ _ _ _ _
        go_wp2
        exact ⟨rfl, rfl, rfl⟩
       case s2f1 =>
        intro w' hC v1 hv1
        obtain rfl : v1 = _ := hv1
        show wpList _ _ _ _ _ _
        simp only [Grow.dstOf, zz1, zz2, zz3, zz4, Act.put, zz5, zz6, zz7]
        go_wp2
        exact ⟨rfl, rfl, rfl⟩
       case s3f1 =>
        intro w' hC v1 hv1
        obtain rfl : v1 = _ := hv1
        cases o3
        ·show wpList _ _ _ _ _ _
         simp only [Grow.dstOf, zz1, zz2, zz3, zz4, Act.put, zz5, zz6, zz7]
         go_wp2
         first | exact ⟨trivial, rfl, rfl⟩ | exact ⟨fun h => (by cases h), rfl, rfl⟩
        ·show wpList _ _ _ _ _ _
         simp only [Grow.dstOf, zz1, zz2, zz3, zz4, Act.put, zz5, zz6, zz7]
         go_wp2
         first | exact ⟨rfl, rfl, rfl⟩ | exact ⟨fun _ => rfl, rfl, rfl⟩
       case s4f1 =>
        intro w' hC v1 hv1 v2 hv2
        have hv1' : (fun v => o3 = true → v = .slice (some ⟨pb, po, none⟩) 7 cp) v1 := hv1
        obtain rfl : v2 = _ := hv2
        obtain ⟨-, -, -, -, -, -, -, -, e4, -⟩ := hC
        cases o3
        ·show wpList _ _ _ _ _ _
         simp only [Grow.dstOf, zz1, zz2, zz3, zz4, Act.put, zz5, zz6, zz7]
         go_wp2
         first | exact ⟨trivial, rfl, rfl⟩ | exact ⟨fun h => (by cases h), rfl, rfl⟩
        ·show wpList _ _ _ _ _ _
         simp only [Grow.dstOf, zz1, zz2, zz3, zz4, Act.put, zz5, zz6, zz7]
         obtain rfl : v1 = _ := hv1' rfl
         go_wp2
         first | exact ⟨rfl, rfl, rfl⟩ | exact ⟨fun _ => rfl, rfl, rfl⟩
       case s5f1 =>
        intro w' hC v1 hv1 v2 hv2
        have hv1' : (fun v => o3 = true → v = .pointer (some ⟨pb, po + 4, none⟩)) v1 := hv1
        obtain rfl : v2 = _ := hv2
        obtain ⟨-, -, -, -, -, -, -, -, e4, -⟩ := hC
        cases o3
        ·show wpList _ _ _ _ _ _
         simp only [Grow.dstOf, zz1, zz2, zz3, zz4, Act.put, zz5, zz6, zz7]
         go_wp2
         first | exact ⟨trivial, rfl, rfl⟩ | exact ⟨fun h => (by cases h), rfl, rfl⟩
        ·show wpList _ _ _ _ _ _
         simp only [Grow.dstOf, zz1, zz2, zz3, zz4, Act.put, zz5, zz6, zz7]
         obtain rfl : v1 = _ := hv1' rfl
         go_wp2
         first | exact ⟨rfl, rfl, rfl⟩ | exact ⟨fun _ => rfl, rfl, rfl⟩
       case s6f1 =>
        intro w' hC v1 hv1 v2 hv2
        have hv1' : (fun v => o3 = true → v = .string k) v1 := hv1
        obtain rfl : v2 = _ := hv2
        cases o3
        ·show wpList _ _ _ _ _ _
         simp only [Grow.dstOf, zz1, zz2, zz3, zz4, Act.put, zz5, zz6, zz7]
         go_wp2
         first | exact ⟨trivial, rfl, rfl⟩ | exact ⟨fun h => (by cases h), rfl, rfl⟩
        ·show wpList _ _ _ _ _ _
         simp only [Grow.dstOf, zz1, zz2, zz3, zz4, Act.put, zz5, zz6, zz7]
         obtain rfl : v1 = _ := hv1' rfl
         go_wp2_with fail
         refine (HXK.out _).mono ?_
         rintro e w9 ⟨rfl, hw9⟩
         subst hw9
         go_wp2
         first | exact ⟨rfl, rfl, rfl⟩ | exact ⟨fun _ => rfl, rfl, rfl⟩
       case s7f1 =>
        intro w' hC v1 hv1 v2 hv2
        obtain rfl : v1 = _ := hv1
        have hv2' : (fun v => o3 = true → v = .bool sk) v2 := hv2
        cases o3
        ·show wpList _ _ _ _ _ _
         simp only [Grow.dstOf, zz1, zz2, zz3, zz4, Act.put, zz5, zz6, zz7]
         go_wp2
         exact ⟨by rw [← HBK.out]; rfl, rfl, rfl⟩
        ·show wpList _ _ _ _ _ _
         simp only [Grow.dstOf, zz1, zz2, zz3, zz4, Act.put, zz5, zz6, zz7]
         obtain rfl : v2 = _ := hv2' rfl
         go_wp2
         exact ⟨by rw [← HBK.out]; rfl, rfl, rfl⟩
       case s8f1 =>
        intro w' hC v1 hv1
        obtain rfl : v1 = _ := hv1
        show wpList _ _ _ _ _ _
        simp only [Grow.dstOf, zz1, zz2, zz3, zz4, Act.put, zz5, zz6, zz7]
        go_wp2
        exact ⟨rfl, rfl, rfl⟩
       case s9f1 =>
        intro w' hC v1 hv1
        obtain rfl : v1 = _ := hv1
        cases bk
        ·show wpList _ _ _ _ _ _
         simp only [Grow.dstOf, zz1, zz2, zz3, zz4, Act.put, zz5, zz6, zz7]
         go_wp2
         first | exact ⟨trivial, rfl, rfl⟩ | exact ⟨fun h => (by cases h), rfl, rfl⟩
        ·show wpList _ _ _ _ _ _
         simp only [Grow.dstOf, zz1, zz2, zz3, zz4, Act.put, zz5, zz6, zz7]
         go_wp2
         first | exact ⟨rfl, rfl, rfl⟩ | exact ⟨fun _ => rfl, rfl, rfl⟩
       case s10f1 =>
        intro w' hC v1 hv1 v2 hv2
        have hv1' : (fun v => bk = true → v = .slice (some ⟨pb, po, none⟩) 7 cp) v1 := hv1
        obtain rfl : v2 = _ := hv2
        obtain ⟨-, -, -, -, -, -, -, -, -, e5⟩ := hC
        cases bk
        ·show wpList _ _ _ _ _ _
         simp only [Grow.dstOf, zz1, zz2, zz3, zz4, Act.put, zz5, zz6, zz7]
         go_wp2
         first | exact ⟨trivial, rfl, rfl⟩ | exact ⟨fun h => (by cases h), rfl, rfl⟩
        ·show wpList _ _ _ _ _ _
         simp only [Grow.dstOf, zz1, zz2, zz3, zz4, Act.put, zz5, zz6, zz7]
         obtain rfl : v1 = _ := hv1' rfl
         go_wp2
         first | exact ⟨rfl, rfl, rfl⟩ | exact ⟨fun _ => rfl, rfl, rfl⟩
       case s11f1 =>
        intro w' hC v1 hv1 v2 hv2
        have hv1' : (fun v => bk = true → v = .pointer (some ⟨pb, po + 5, none⟩)) v1 := hv1
        obtain rfl : v2 = _ := hv2
        obtain ⟨-, -, -, -, -, -, -, -, -, e5⟩ := hC
        cases bk
        ·show wpList _ _ _ _ _ _
         simp only [Grow.dstOf, zz1, zz2, zz3, zz4, Act.put, zz5, zz6, zz7]
         go_wp2
         first | exact ⟨trivial, rfl, rfl⟩ | exact ⟨fun h => (by cases h), rfl, rfl⟩
        ·show wpList _ _ _ _ _ _
         simp only [Grow.dstOf, zz1, zz2, zz3, zz4, Act.put, zz5, zz6, zz7]
         obtain rfl : v1 = _ := hv1' rfl
         go_wp2
         first | exact ⟨rfl, rfl, rfl⟩ | exact ⟨fun _ => rfl, rfl, rfl⟩
       case s12f1 =>
        intro w' hC v1 hv1 v2 hv2
        have hv1' : (fun v => bk = true → v = .string m) v1 := hv1
        obtain rfl : v2 = _ := hv2
        cases bk
        ·show wpList _ _ _ _ _ _
         simp only [Grow.dstOf, zz1, zz2, zz3, zz4, Act.put, zz5, zz6, zz7]
         go_wp2
         first | exact ⟨trivial, rfl, rfl⟩ | exact ⟨fun h => (by cases h), rfl, rfl⟩
        ·show wpList _ _ _ _ _ _
         simp only [Grow.dstOf, zz1, zz2, zz3, zz4, Act.put, zz5, zz6, zz7]
         obtain rfl : v1 = _ := hv1' rfl
         go_wp2_with fail
         refine (HXM.out _).mono ?_
         rintro e w9 ⟨rfl, hw9⟩
         subst hw9
         go_wp2
         first | exact ⟨rfl, rfl, rfl⟩ | exact ⟨fun _ => rfl, rfl, rfl⟩
       case s13f1 =>
        intro w' hC v1 hv1 v2 hv2
        obtain rfl : v1 = _ := hv1
        have hv2' : (fun v => bk = true → v = .bool wm) v2 := hv2
        cases bk
        ·show wpList _ _ _ _ _ _
         simp only [Grow.dstOf, zz1, zz2, zz3, zz4, Act.put, zz5, zz6, zz7]
         go_wp2
         exact ⟨by rw [← HBB.out]; rfl, rfl, rfl⟩
        ·show wpList _ _ _ _ _ _
         simp only [Grow.dstOf, zz1, zz2, zz3, zz4, Act.put, zz5, zz6, zz7]
         obtain rfl : v2 = _ := hv2' rfl
         go_wp2
         exact ⟨by rw [← HBB.out]; rfl, rfl, rfl⟩
       case s14f1 =>
        intro v1 hv1
        obtain rfl : v1 = _ := hv1
        have g0 : w11'.cell? ⟨w.heap.size, 0, none⟩ = some (.string ⟨#[]⟩) := (r0_o.out.cell 0).trans rfl
        have f0 := r0_o.out.fre 0
        have g1 : w11'.cell? ⟨w.heap.size, 1, none⟩ = some (.int .i64 0) := (r0_o.out.cell 1).trans rfl
        have f1 := r0_o.out.fre 1
        have g2 : w11'.cell? ⟨w.heap.size, 2, none⟩ = some (.int .i64 0) := (r0_o.out.cell 2).trans rfl
        have f2 := r0_o.out.fre 2
        have g3 : w11'.cell? ⟨w.heap.size, 3, none⟩ = some (.int .i64 0) := (r0_o.out.cell 3).trans rfl
        have f3 := r0_o.out.fre 3
        have g4 : w11'.cell? ⟨w.heap.size, 4, none⟩ = some (.string ⟨#[]⟩) := (r0_o.out.cell 4).trans rfl
        have f4 := r0_o.out.fre 4
        have g5 : w11'.cell? ⟨w.heap.size, 5, none⟩ = some (.string ⟨#[]⟩) := (r0_o.out.cell 5).trans rfl
        have f5 := r0_o.out.fre 5
        have g6 : w11'.cell? ⟨w.heap.size, 6, none⟩ = some (.int .i64 0) := (r0_o.out.cell 6).trans rfl
        have f6 := r0_o.out.fre 6
        have g7 : w11'.cell? ⟨w.heap.size, 7, none⟩ = some (.int .i64 0) := (r0_o.out.cell 7).trans rfl
        have f7 := r0_o.out.fre 7
        show wpList _ _ _ _ _ w11'
        simp only [Grow.dstOf, zz1, zz3, zz4, Act.put, zz5, zz6, zz7]
        go_wp2
        exact ⟨trivial, HZ1.out.symm, rfl⟩
       case s15f1 =>
        intro w' hC v1 hv1
        obtain rfl : v1 = _ := hv1
        show wpList _ _ _ _ _ _
        simp only [Grow.dstOf, zz1, zz2, zz3, zz4, Act.put, zz5, zz6, zz7]
        go_wp2
        exact ⟨rfl, rfl, rfl⟩
       intro u0 hu0 u1 hu1 u2 hu2 u3 hu3 u4 hu4 u5 hu5 u6 hu6 u7 hu7 u8 hu8 u9 hu9 u10 hu10 u11 hu11 u12 hu12 u13 hu13 u14 hu14 u15 hu15
       obtain rfl : u15 = _ := hu15 rfl
       refine Grow.TailV.fin w12' rfl ?_
       simp only [Act.put, zz5, zz6, zz7]
       replace HW := HW1
       clear HW0 HW1
       replace HR_o := r1_o
       clear r0_o r1_o
       replace HR_e := r1_e
       clear r0_e r1_e
       replace HP := x1_HP
       clear x0_HP x1_HP
       clear hu0 hu1 hu2 hu3 hu4 hu5 hu6 hu7 hu8 hu9 hu10 hu11 hu12 hu13 hu14 HZ0 HZ1
       have HN : Hid ((readO s.data.toList = some ⟨a, n1, 1, n2, k, m, n3, 0⟩ ∧ bb = true) ∨ (readO s.data.toList = none ∧ bb = false)) := Lib.hid (by
        rw [HRD'.out, hd]
        have k1 := HBK.out
        have k2 := HBB.out
        cases o3 with
        | false => exact .inr ⟨read7_no (.inr (.inr (.inr (.inl (num_none HO3.out))))), by rw [← k2, ← k1]; rfl⟩
        | true =>
         cases sk with
         | false => exact .inr ⟨read7_no (.inr (.inr (.inr (.inr (.inl HSK.out))))), by rw [← k2, ← k1]; rfl⟩
         | true =>
          cases wm with
          | false => exact .inr ⟨read7_no (.inr (.inr (.inr (.inr (.inr (.inl HWM.out)))))), by rw [← k2, ← k1]; rfl⟩
          | true => exact .inl ⟨by rw [read7_exp HB1.out HB2.out (num_get HO3.out HN3.out) HWA.out HSK.out HWM.out, bs_data, bs_data, bs_data], by rw [← k2, ← k1]; rfl⟩)
       have c_o_0 : w12'.cell? ⟨w.heap.size, 0, none⟩ = some (.string a) := (HR_o.out.cell 0).trans rfl
       have c_o_1 : w12'.cell? ⟨w.heap.size, 1, none⟩ = some (.int .i64 (n1)) := (HR_o.out.cell 1).trans rfl
       have c_o_2 : w12'.cell? ⟨w.heap.size, 2, none⟩ = some (.int .i64 (1)) := (HR_o.out.cell 2).trans rfl
       have c_o_3 : w12'.cell? ⟨w.heap.size, 3, none⟩ = some (.int .i64 (n2)) := (HR_o.out.cell 3).trans rfl
       have c_o_4 : w12'.cell? ⟨w.heap.size, 4, none⟩ = some (.string k) := (HR_o.out.cell 4).trans rfl
       have c_o_5 : w12'.cell? ⟨w.heap.size, 5, none⟩ = some (.string m) := (HR_o.out.cell 5).trans rfl
       have c_o_6 : w12'.cell? ⟨w.heap.size, 6, none⟩ = some (.int .i64 (n3)) := (HR_o.out.cell 6).trans rfl
       have c_o_7 : w12'.cell? ⟨w.heap.size, 7, none⟩ = some (.int .i64 0) := (HR_o.out.cell 7).trans rfl
       go_wp2
       exact bodyPost_ret (v := .tuple #[.agg #[.string a, .int .i64 (n1), .int .i64 (1), .int .i64 (n2), .string k, .string m, .int .i64 (n3), .int .i64 0], .bool bb]) (by simp [results, Tryz.results23, go_sem, c_o_0, c_o_1, c_o_2, c_o_3, c_o_4, c_o_5, c_o_6, c_o_7]) rfl ⟨⟨a, n1, 1, n2, k, m, n3, 0⟩, _, rfl, ⟨Nat.le_trans HZa.out (by decide), Nat.le_trans HZk.out (by decide), Nat.le_trans HZm.out (by decide)⟩, HN.out, HW.out⟩
      ·have q1 : (d.toList == [101, 120, 112, 111, 115, 117, 114, 101]) = false := by rw [ByteArray.toList_eq]; exact beq_eq_false_iff_ne.2 hd
       by_cases hd2 : d.data.toList = outL
       ·have q2 : (d.toList == [111, 117, 116, 99, 111, 109, 101]) = true := by rw [ByteArray.toList_eq]; exact beq_iff_eq.2 hd2
        clear hd
        have hd := hd2
        clear hd2
        go_upto_region 19 with (fail)
        obtain ⟨w7', hX⟩ : ∃ Z9, Z9 = ((w6'.setCell ⟨b_e, 2, none⟩ (.int .i64 (2))).setCell ⟨b_e, 7, none⟩ (.int .i64 (n3))) := ⟨_, rfl⟩
        rw [← hX]
        have n_e : Hid (RH w7' b_e #[.string a, .int .i64 (n1), .int .i64 (2), .int .i64 (n2), .string ⟨#[]⟩, .string ⟨#[]⟩, .int .i64 0, .int .i64 (n3)] 31) := by rw [hX]; exact Lib.hid (((HR_e.out).set 2 (.int .i64 (2))).set 7 (.int .i64 (n3)))
        have n_o : Hid (RH w7' w.heap.size #[.string ⟨#[]⟩, .int .i64 0, .int .i64 0, .int .i64 0, .string ⟨#[]⟩, .string ⟨#[]⟩, .int .i64 0, .int .i64 0] 31) := by rw [hX]; exact Lib.hid (zzo (zzo (HR_o.out) (by omega)) (by omega))
        have HK_ : ∀ p : Addr, p.block ≠ b_e → w7'.cell? p = w6'.cell? p := fun p hp => by rw [hX]; exact (cs_vr hp).trans (cs_vr hp)
        have n_HP : Hid (Pcs w7' pb po [a, b, c, d, k, m, z]) := Lib.hid (HP.out.far HR_e.out.box (show pb ≠ b_e by omega) HK_)
        have nW : Hid (Below w.heap.size w w7') := by rw [hX]; exact Lib.hid (zzw (zzw (HW.out) (by omega)) (by omega))
        clear e_3 c_e_0 c_e_1 c_e_2 c_e_3 c_e_4 c_e_5 c_e_6 c_e_7 f_e_0 f_e_1 f_e_2 f_e_3 f_e_4 f_e_5 f_e_6 f_e_7
        clear hX HK_ HW HR_o HR_e HP
        have HR_o := n_o; clear n_o
        have HR_e := n_e; clear n_e
        have HP := n_HP; clear n_HP
        have HW := nW; clear nW
        obtain ⟨w8', hZ0⟩ : ∃ Z9, Z9 = w7'.drew := ⟨_, rfl⟩
        have r0_o : Hid (RH w8' w.heap.size #[.string ⟨#[]⟩, .int .i64 0, .int .i64 0, .int .i64 0, .string ⟨#[]⟩, .string ⟨#[]⟩, .int .i64 0, .int .i64 0] 31) := by rw [hZ0]; exact HR_o
        have r0_e : Hid (RH w8' b_e #[.string a, .int .i64 (n1), .int .i64 (2), .int .i64 (n2), .string ⟨#[]⟩, .string ⟨#[]⟩, .int .i64 0, .int .i64 (n3)] 31) := by rw [hZ0]; exact HR_e
        have x0_HP : Hid (Pcs w8' pb po [a, b, c, d, k, m, z]) := by rw [hZ0]; exact HP
        have HW0 : Hid (Below w.heap.size w w8') := by rw [hZ0]; have h9 := HW.out; exact Lib.hid ⟨h9.1, h9.2, h9.3, h9.4, h9.5⟩
        obtain ⟨w9', hZ1⟩ : ∃ Z9, Z9 = (w8'.setCell ⟨b_e, 4, none⟩ (.string k)) := ⟨_, rfl⟩
        have r1_o : Hid (RH w9' w.heap.size #[.string ⟨#[]⟩, .int .i64 0, .int .i64 0, .int .i64 0, .string ⟨#[]⟩, .string ⟨#[]⟩, .int .i64 0, .int .i64 0] 31) := by rw [hZ1]; exact Lib.hid (zzo (r0_o.out) (by omega))
        have r1_e : Hid (RH w9' b_e #[.string a, .int .i64 (n1), .int .i64 (2), .int .i64 (n2), .string k, .string ⟨#[]⟩, .int .i64 0, .int .i64 (n3)] 31) := by rw [hZ1]; exact Lib.hid ((r0_e.out).set 4 (.string k))
        have HK_ : ∀ p : Addr, p.block ≠ b_e → w9'.cell? p = w8'.cell? p := fun p hp => by rw [hZ1]; exact cs_vr hp
        have x1_HP : Hid (Pcs w9' pb po [a, b, c, d, k, m, z]) := Lib.hid (x0_HP.out.far r0_e.out.box (show pb ≠ b_e by omega) HK_)
        clear HK_
        have HW1 : Hid (Below w.heap.size w w9') := by rw [hZ1]; exact Lib.hid (zzw (HW0.out) (by omega))
        obtain ⟨w10', hZ2⟩ : ∃ Z9, Z9 = (w9'.setCell ⟨b_e, 5, none⟩ (.string m)) := ⟨_, rfl⟩
        have r2_o : Hid (RH w10' w.heap.size #[.string ⟨#[]⟩, .int .i64 0, .int .i64 0, .int .i64 0, .string ⟨#[]⟩, .string ⟨#[]⟩, .int .i64 0, .int .i64 0] 31) := by rw [hZ2]; exact Lib.hid (zzo (r1_o.out) (by omega))
        have r2_e : Hid (RH w10' b_e #[.string a, .int .i64 (n1), .int .i64 (2), .int .i64 (n2), .string k, .string m, .int .i64 0, .int .i64 (n3)] 31) := by rw [hZ2]; exact Lib.hid ((r1_e.out).set 5 (.string m))
        have HK_ : ∀ p : Addr, p.block ≠ b_e → w10'.cell? p = w9'.cell? p := fun p hp => by rw [hZ2]; exact cs_vr hp
        have x2_HP : Hid (Pcs w10' pb po [a, b, c, d, k, m, z]) := Lib.hid (x1_HP.out.far r1_e.out.box (show pb ≠ b_e by omega) HK_)
        clear HK_
        have HW2 : Hid (Below w.heap.size w w10') := by rw [hZ2]; exact Lib.hid (zzw (HW1.out) (by omega))
        have HCZ : ∀ k9, k9 ≤ 2 → (fun w' : World => w'.cell? ⟨pb, po + 4, none⟩ = some (.string k) ∧ w'.cell? ⟨pb, po + 5, none⟩ = some (.string m)) ([w8', w9', w10'].getD k9 w7') := fun k9 hk9 => by
         match k9, hk9 with
         | 0, _ => exact ⟨x0_HP.out 4 (by simp), x0_HP.out 5 (by simp)⟩
         | 1, _ => exact ⟨x1_HP.out 4 (by simp), x1_HP.out 5 (by simp)⟩
         | 2, _ => exact ⟨x2_HP.out 4 (by simp), x2_HP.out 5 (by simp)⟩
         | k9 + 3, h => omega
        have HZ0 := Lib.hid hZ0
        have HZ1 := Lib.hid hZ1
        have HZ2 := Lib.hid hZ2
        clear hZ0 hZ1 hZ2
        refine Grow.wp_region_stores 10 2 [w8', w9', w10'] (fun w' => w'.cell? ⟨pb, po + 4, none⟩ = some (.string k) ∧ w'.cell? ⟨pb, po + 5, none⟩ = some (.string m)) [fun v => v = .slice (some ⟨pb, po, none⟩) 7 cp, fun v => v = .pointer (some ⟨pb, po + 4, none⟩), fun v => v = .string k, fun v => v = .slice (some ⟨pb, po, none⟩) 7 cp, fun v => v = .pointer (some ⟨pb, po + 5, none⟩), fun v => v = .string m, fun v => v = .pointer (some ⟨b_e, 4, none⟩), fun _ => True, fun v => v = .pointer (some ⟨b_e, 5, none⟩), fun _ => True] [[], [0], [1], [], [3], [4], [], [6, 2], [], [8, 5]] [none, none, none, none, none, none, none, some 0, none, some 1] (by kernel_rfl) (by kernel_rfl) HZ0.out HCZ ⟨?s0k2, ?s1k2, ?s2k2, ?s3k2, ?s4k2, ?s5k2, ?s6k2, ?s7k2, ?s8k2, ?s9k2, trivial⟩ ?_
        all_goals clear HCZ
        case s0k2 =>
         intro w' hC 
         show wpList _ _ _ _ _ _
         go_wp2
         exact ⟨rfl, rfl, rfl⟩
        case s1k2 =>
         intro w' hC v1 hv1
         obtain rfl : v1 = _ := hv1
         obtain ⟨e4, -⟩ := hC
         show wpList _ _ _ _ _ _
         simp only [Grow.dstOf, zz1, zz3, zz4, Act.put, zz5, zz6, zz7]
         go_wp2
         exact ⟨rfl, rfl, rfl⟩
        case s2k2 =>
         intro w' hC v1 hv1
         obtain rfl : v1 = _ := hv1
         obtain ⟨e4, -⟩ := hC
         show wpList _ _ _ _ _ _
         simp only [Grow.dstOf, zz1, zz2, zz3, zz4, Act.put, zz5, zz6, zz7]
         go_wp2
         exact ⟨rfl, rfl, rfl⟩
        case s3k2 =>
         intro w' hC 
         show wpList _ _ _ _ _ _
         go_wp2
         exact ⟨rfl, rfl, rfl⟩
        case s4k2 =>
         intro w' hC v1 hv1
         obtain rfl : v1 = _ := hv1
         obtain ⟨-, e5⟩ := hC
         show wpList _ _ _ _ _ _
         simp only [Grow.dstOf, zz1, zz2, zz3, zz4, Act.put, zz5, zz6, zz7]
         go_wp2
         exact ⟨rfl, rfl, rfl⟩
        case s5k2 =>
         intro w' hC v1 hv1
         obtain rfl : v1 = _ := hv1
         obtain ⟨-, e5⟩ := hC
         show wpList _ _ _ _ _ _
         simp only [Grow.dstOf, zz1, zz2, zz3, zz4, Act.put, zz5, zz6, zz7]
         go_wp2
         exact ⟨rfl, rfl, rfl⟩
        case s6k2 =>
         intro w' hC 
         show wpList _ _ _ _ _ _
         go_wp2
         exact ⟨rfl, rfl, rfl⟩
        case s7k2 =>
         intro v1 hv1 v2 hv2
         obtain rfl : v1 = _ := hv1
         obtain rfl : v2 = _ := hv2
         have g4 : w8'.cell? ⟨b_e, 4, none⟩ = some (.string ⟨#[]⟩) := (r0_e.out.cell 4).trans rfl
         have f4 := r0_e.out.fre 4
         show wpList _ _ _ _ _ w8'
         simp only [Grow.dstOf, zz1, zz2, zz3, zz4, Act.put, zz5, zz6, zz7]
         go_wp2
         exact ⟨trivial, HZ1.out.symm, rfl⟩
        case s8k2 =>
         intro w' hC 
         show wpList _ _ _ _ _ _
         go_wp2
         exact ⟨rfl, rfl, rfl⟩
        case s9k2 =>
         intro v1 hv1 v2 hv2
         obtain rfl : v1 = _ := hv1
         obtain rfl : v2 = _ := hv2
         have g5 : w9'.cell? ⟨b_e, 5, none⟩ = some (.string ⟨#[]⟩) := (r1_e.out.cell 5).trans rfl
         have f5 := r1_e.out.fre 5
         show wpList _ _ _ _ _ w9'
         simp only [Grow.dstOf, zz1, zz2, zz3, zz4, Act.put, zz5, zz6, zz7]
         go_wp2
         exact ⟨trivial, HZ2.out.symm, rfl⟩
        intro u0 hu0 u1 hu1 u2 hu2 u3 hu3 u4 hu4 u5 hu5 u6 hu6 u7 hu7 u8 hu8 u9 hu9
        refine Grow.TailV.fin w10' rfl ?_
        simp only [Act.put, zz5, zz6, zz7]
        replace HW := HW2
        clear HW0 HW1 HW2
        replace HR_o := r2_o
        clear r0_o r1_o r2_o
        replace HR_e := r2_e
        clear r0_e r1_e r2_e
        replace HP := x2_HP
        clear x0_HP x1_HP x2_HP
        clear hu0 hu1 hu2 hu3 hu4 hu5 hu6 hu7 hu8 hu9 HZ0 HZ1 HZ2
        obtain ⟨sk, hsk⟩ : ∃ z, seenB k.data.toList = z := ⟨_, rfl⟩
        obtain ⟨wm, hwm⟩ : ∃ z, wordsB m.data.toList = z := ⟨_, rfl⟩
        have HSK := Lib.hid hsk
        have HWM := Lib.hid hwm
        have HXK := Lib.hid (fun W9 => (by have h9 := event_isBytes k (Nat.le_trans HZk.out (by decide)) W9; rw [hsk] at h9; exact h9 : Calls Tryz.prog 42 #[.string k] W9 fun e w' => e = .returned (.bool sk) ∧ W9 = w'))
        have HXM := Lib.hid (fun W9 => (by have h9 := flag_XisRow m (Nat.le_trans HZm.out (by decide)) W9; rw [hwm] at h9; exact h9 : Calls Tryz.prog 41 #[.string m] W9 fun e w' => e = .returned (.bool wm) ∧ W9 = w'))
        clear hsk hwm
        obtain ⟨bk, hbk⟩ : ∃ z, (o3 && sk) = z := ⟨_, rfl⟩
        obtain ⟨bb, hbb⟩ : ∃ z, (bk && wm) = z := ⟨_, rfl⟩
        have HBK := Lib.hid hbk
        have HBB := Lib.hid hbb
        clear hbk hbb
        go_upto_region 20 with (fail)
        obtain ⟨w11', hZ0⟩ : ∃ Z9, Z9 = w10'.drew := ⟨_, rfl⟩
        have r0_o : Hid (RH w11' w.heap.size #[.string ⟨#[]⟩, .int .i64 0, .int .i64 0, .int .i64 0, .string ⟨#[]⟩, .string ⟨#[]⟩, .int .i64 0, .int .i64 0] 31) := by rw [hZ0]; exact HR_o
        have r0_e : Hid (RH w11' b_e #[.string a, .int .i64 (n1), .int .i64 (2), .int .i64 (n2), .string k, .string m, .int .i64 0, .int .i64 (n3)] 31) := by rw [hZ0]; exact HR_e
        have x0_HP : Hid (Pcs w11' pb po [a, b, c, d, k, m, z]) := by rw [hZ0]; exact HP
        have HW0 : Hid (Below w.heap.size w w11') := by rw [hZ0]; have h9 := HW.out; exact Lib.hid ⟨h9.1, h9.2, h9.3, h9.4, h9.5⟩
        obtain ⟨w12', hZ1⟩ : ∃ Z9, Z9 = ((((((((w11'.setCell ⟨w.heap.size, 0, none⟩ (.string a)).setCell ⟨w.heap.size, 1, none⟩ (.int .i64 (n1))).setCell ⟨w.heap.size, 2, none⟩ (.int .i64 (2))).setCell ⟨w.heap.size, 3, none⟩ (.int .i64 (n2))).setCell ⟨w.heap.size, 4, none⟩ (.string k)).setCell ⟨w.heap.size, 5, none⟩ (.string m)).setCell ⟨w.heap.size, 6, none⟩ (.int .i64 0)).setCell ⟨w.heap.size, 7, none⟩ (.int .i64 (n3))) := ⟨_, rfl⟩
        have r1_o : Hid (RH w12' w.heap.size #[.string a, .int .i64 (n1), .int .i64 (2), .int .i64 (n2), .string k, .string m, .int .i64 0, .int .i64 (n3)] 31) := by rw [hZ1]; exact Lib.hid (((((((((r0_o.out).set 0 (.string a)).set 1 (.int .i64 (n1))).set 2 (.int .i64 (2))).set 3 (.int .i64 (n2))).set 4 (.string k)).set 5 (.string m)).set 6 (.int .i64 0)).set 7 (.int .i64 (n3)))
        have r1_e : Hid (RH w12' b_e #[.string a, .int .i64 (n1), .int .i64 (2), .int .i64 (n2), .string k, .string m, .int .i64 0, .int .i64 (n3)] 31) := by rw [hZ1]; exact Lib.hid (zzo (zzo (zzo (zzo (zzo (zzo (zzo (zzo (r0_e.out) (by omega)) (by omega)) (by omega)) (by omega)) (by omega)) (by omega)) (by omega)) (by omega))
        have HK_ : ∀ p : Addr, p.block ≠ w.heap.size → w12'.cell? p = w11'.cell? p := fun p hp => by rw [hZ1]; exact (cs_vr hp).trans ((cs_vr hp).trans ((cs_vr hp).trans ((cs_vr hp).trans ((cs_vr hp).trans ((cs_vr hp).trans ((cs_vr hp).trans (cs_vr hp)))))))
        have x1_HP : Hid (Pcs w12' pb po [a, b, c, d, k, m, z]) := Lib.hid (x0_HP.out.far r0_o.out.box (show pb ≠ w.heap.size by omega) HK_)
        clear HK_
        have HW1 : Hid (Below w.heap.size w w12') := by rw [hZ1]; exact Lib.hid (zzw (zzw (zzw (zzw (zzw (zzw (zzw (zzw (HW0.out) (by omega)) (by omega)) (by omega)) (by omega)) (by omega)) (by omega)) (by omega)) (by omega))
        have HCZ : ∀ k9, k9 ≤ 1 → (fun w' : World => w'.cell? ⟨b_e, 0, none⟩ = some (.string a) ∧ w'.cell? ⟨b_e, 1, none⟩ = some (.int .i64 (n1)) ∧ w'.cell? ⟨b_e, 2, none⟩ = some (.int .i64 (2)) ∧ w'.cell? ⟨b_e, 3, none⟩ = some (.int .i64 (n2)) ∧ w'.cell? ⟨b_e, 4, none⟩ = some (.string k) ∧ w'.cell? ⟨b_e, 5, none⟩ = some (.string m) ∧ w'.cell? ⟨b_e, 6, none⟩ = some (.int .i64 0) ∧ w'.cell? ⟨b_e, 7, none⟩ = some (.int .i64 (n3)) ∧ w'.cell? ⟨pb, po + 4, none⟩ = some (.string k) ∧ w'.cell? ⟨pb, po + 5, none⟩ = some (.string m)) ([w11', w12'].getD k9 w10') := fun k9 hk9 => by
         match k9, hk9 with
         | 0, _ => exact ⟨(r0_e.out.cell 0).trans rfl, (r0_e.out.cell 1).trans rfl, (r0_e.out.cell 2).trans rfl, (r0_e.out.cell 3).trans rfl, (r0_e.out.cell 4).trans rfl, (r0_e.out.cell 5).trans rfl, (r0_e.out.cell 6).trans rfl, (r0_e.out.cell 7).trans rfl, x0_HP.out 4 (by simp), x0_HP.out 5 (by simp)⟩
         | 1, _ => exact ⟨(r1_e.out.cell 0).trans rfl, (r1_e.out.cell 1).trans rfl, (r1_e.out.cell 2).trans rfl, (r1_e.out.cell 3).trans rfl, (r1_e.out.cell 4).trans rfl, (r1_e.out.cell 5).trans rfl, (r1_e.out.cell 6).trans rfl, (r1_e.out.cell 7).trans rfl, x1_HP.out 4 (by simp), x1_HP.out 5 (by simp)⟩
         | k9 + 2, h => omega
        have HZ0 := Lib.hid hZ0
        have HZ1 := Lib.hid hZ1
        clear hZ0 hZ1
        refine Grow.wp_region_stores 16 1 [w11', w12'] (fun w' => w'.cell? ⟨b_e, 0, none⟩ = some (.string a) ∧ w'.cell? ⟨b_e, 1, none⟩ = some (.int .i64 (n1)) ∧ w'.cell? ⟨b_e, 2, none⟩ = some (.int .i64 (2)) ∧ w'.cell? ⟨b_e, 3, none⟩ = some (.int .i64 (n2)) ∧ w'.cell? ⟨b_e, 4, none⟩ = some (.string k) ∧ w'.cell? ⟨b_e, 5, none⟩ = some (.string m) ∧ w'.cell? ⟨b_e, 6, none⟩ = some (.int .i64 0) ∧ w'.cell? ⟨b_e, 7, none⟩ = some (.int .i64 (n3)) ∧ w'.cell? ⟨pb, po + 4, none⟩ = some (.string k) ∧ w'.cell? ⟨pb, po + 5, none⟩ = some (.string m)) [fun v => v = .agg #[.string a, .int .i64 (n1), .int .i64 (2), .int .i64 (n2), .string k, .string m, .int .i64 0, .int .i64 (n3)], fun v => v = .bool o3, fun v => v = .bool o3, fun v => o3 = true → v = .slice (some ⟨pb, po, none⟩) 7 cp, fun v => o3 = true → v = .pointer (some ⟨pb, po + 4, none⟩), fun v => o3 = true → v = .string k, fun v => o3 = true → v = .bool sk, fun v => v = .bool bk, fun v => v = .bool bk, fun v => bk = true → v = .slice (some ⟨pb, po, none⟩) 7 cp, fun v => bk = true → v = .pointer (some ⟨pb, po + 5, none⟩), fun v => bk = true → v = .string m, fun v => bk = true → v = .bool wm, fun v => v = .bool bb, fun _ => True, fun v => v = .bool bb] [[], [], [1], [2], [3, 2], [4, 2], [5, 2], [2, 6], [7], [8], [9, 8], [10, 8], [11, 8], [8, 12], [0], [13]] [none, none, none, none, none, none, none, none, none, none, none, none, none, none, some 0, none] (by kernel_rfl) (by kernel_rfl) HZ0.out HCZ ⟨?s0f2, ?s1f2, ?s2f2, ?s3f2, ?s4f2, ?s5f2, ?s6f2, ?s7f2, ?s8f2, ?s9f2, ?s10f2, ?s11f2, ?s12f2, ?s13f2, ?s14f2, ?s15f2, trivial⟩ ?_
        all_goals clear HCZ
        case s0f2 =>
         intro w' hC 
         obtain ⟨ce0, ce1, ce2, ce3, ce4, ce5, ce6, ce7, -, -⟩ := hC
         show wpList _ _ _ _ _ _
         go_wp2
         exact ⟨rfl, rfl, rfl⟩
        case s1f2 =>
         intro w' hC 
         show wpList _ _ _ _ _ _
         go_wp2
         exact ⟨rfl, rfl, rfl⟩
        case s2f2 =>
         intro w' hC v1 hv1
         obtain rfl : v1 = _ := hv1
         show wpList _ _ _ _ _ _
         simp only [Grow.dstOf, zz1, zz2, zz3, zz4, Act.put, zz5, zz6, zz7]
         go_wp2
         exact ⟨rfl, rfl, rfl⟩
        case s3f2 =>
         intro w' hC v1 hv1
         obtain rfl : v1 = _ := hv1
         cases o3
         ·show wpList _ _ _ _ _ _
          simp only [Grow.dstOf, zz1, zz2, zz3, zz4, Act.put, zz5, zz6, zz7]
          go_wp2
          first | exact ⟨trivial, rfl, rfl⟩ | exact ⟨fun h => (by cases h), rfl, rfl⟩
         ·show wpList _ _ _ _ _ _
          simp only [Grow.dstOf, zz1, zz2, zz3, zz4, Act.put, zz5, zz6, zz7]
          go_wp2
          first | exact ⟨rfl, rfl, rfl⟩ | exact ⟨fun _ => rfl, rfl, rfl⟩
        case s4f2 =>
         intro w' hC v1 hv1 v2 hv2
         have hv1' : (fun v => o3 = true → v = .slice (some ⟨pb, po, none⟩) 7 cp) v1 := hv1
         obtain rfl : v2 = _ := hv2
         obtain ⟨-, -, -, -, -, -, -, -, e4, -⟩ := hC
         cases o3
         ·show wpList _ _ _ _ _ _
          simp only [Grow.dstOf, zz1, zz2, zz3, zz4, Act.put, zz5, zz6, zz7]
          go_wp2
          first | exact ⟨trivial, rfl, rfl⟩ | exact ⟨fun h => (by cases h), rfl, rfl⟩
         ·show wpList _ _ _ _ _ _
          simp only [Grow.dstOf, zz1, zz2, zz3, zz4, Act.put, zz5, zz6, zz7]
          obtain rfl : v1 = _ := hv1' rfl
          go_wp2
          first | exact ⟨rfl, rfl, rfl⟩ | exact ⟨fun _ => rfl, rfl, rfl⟩
        case s5f2 =>
         intro w' hC v1 hv1 v2 hv2
         have hv1' : (fun v => o3 = true → v = .pointer (some ⟨pb, po + 4, none⟩)) v1 := hv1
         obtain rfl : v2 = _ := hv2
         obtain ⟨-, -, -, -, -, -, -, -, e4, -⟩ := hC
         cases o3
         ·show wpList _ _ _ _ _ _
          simp only [Grow.dstOf, zz1, zz2, zz3, zz4, Act.put, zz5, zz6, zz7]
          go_wp2
          first | exact ⟨trivial, rfl, rfl⟩ | exact ⟨fun h => (by cases h), rfl, rfl⟩
         ·show wpList _ _ _ _ _ _
          simp only [Grow.dstOf, zz1, zz2, zz3, zz4, Act.put, zz5, zz6, zz7]
          obtain rfl : v1 = _ := hv1' rfl
          go_wp2
          first | exact ⟨rfl, rfl, rfl⟩ | exact ⟨fun _ => rfl, rfl, rfl⟩
        case s6f2 =>
         intro w' hC v1 hv1 v2 hv2
         have hv1' : (fun v => o3 = true → v = .string k) v1 := hv1
         obtain rfl : v2 = _ := hv2
         cases o3
         ·show wpList _ _ _ _ _ _
          simp only [Grow.dstOf, zz1, zz2, zz3, zz4, Act.put, zz5, zz6, zz7]
          go_wp2
          first | exact ⟨trivial, rfl, rfl⟩ | exact ⟨fun h => (by cases h), rfl, rfl⟩
         ·show wpList _ _ _ _ _ _
          simp only [Grow.dstOf, zz1, zz2, zz3, zz4, Act.put, zz5, zz6, zz7]
          obtain rfl : v1 = _ := hv1' rfl
          go_wp2_with fail
          refine (HXK.out _).mono ?_
          rintro e w9 ⟨rfl, hw9⟩
          subst hw9
          go_wp2
          first | exact ⟨rfl, rfl, rfl⟩ | exact ⟨fun _ => rfl, rfl, rfl⟩
        case s7f2 =>
         intro w' hC v1 hv1 v2 hv2
         obtain rfl : v1 = _ := hv1
         have hv2' : (fun v => o3 = true → v = .bool sk) v2 := hv2
         cases o3
         ·show wpList _ _ _ _ _ _
          simp only [Grow.dstOf, zz1, zz2, zz3, zz4, Act.put, zz5, zz6, zz7]
          go_wp2
          exact ⟨by rw [← HBK.out]; rfl, rfl, rfl⟩
         ·show wpList _ _ _ _ _ _
          simp only [Grow.dstOf, zz1, zz2, zz3, zz4, Act.put, zz5, zz6, zz7]
          obtain rfl : v2 = _ := hv2' rfl
          go_wp2
          exact ⟨by rw [← HBK.out]; rfl, rfl, rfl⟩
        case s8f2 =>
         intro w' hC v1 hv1
         obtain rfl : v1 = _ := hv1
         show wpList _ _ _ _ _ _
         simp only [Grow.dstOf, zz1, zz2, zz3, zz4, Act.put, zz5, zz6, zz7]
         go_wp2
         exact ⟨rfl, rfl, rfl⟩
        case s9f2 =>
         intro w' hC v1 hv1
         obtain rfl : v1 = _ := hv1
         cases bk
         ·show wpList _ _ _ _ _ _
          simp only [Grow.dstOf, zz1, zz2, zz3, zz4, Act.put, zz5, zz6, zz7]
          go_wp2
          first | exact ⟨trivial, rfl, rfl⟩ | exact ⟨fun h => (by cases h), rfl, rfl⟩
         ·show wpList _ _ _ _ _ _
          simp only [Grow.dstOf, zz1, zz2, zz3, zz4, Act.put, zz5, zz6, zz7]
          go_wp2
          first | exact ⟨rfl, rfl, rfl⟩ | exact ⟨fun _ => rfl, rfl, rfl⟩
        case s10f2 =>
         intro w' hC v1 hv1 v2 hv2
         have hv1' : (fun v => bk = true → v = .slice (some ⟨pb, po, none⟩) 7 cp) v1 := hv1
         obtain rfl : v2 = _ := hv2
         obtain ⟨-, -, -, -, -, -, -, -, -, e5⟩ := hC
         cases bk
         ·show wpList _ _ _ _ _ _
          simp only [Grow.dstOf, zz1, zz2, zz3, zz4, Act.put, zz5, zz6, zz7]
          go_wp2
          first | exact ⟨trivial, rfl, rfl⟩ | exact ⟨fun h => (by cases h), rfl, rfl⟩
         ·show wpList _ _ _ _ _ _
          simp only [Grow.dstOf, zz1, zz2, zz3, zz4, Act.put, zz5, zz6, zz7]
          obtain rfl : v1 = _ := hv1' rfl
          go_wp2
          first | exact ⟨rfl, rfl, rfl⟩ | exact ⟨fun _ => rfl, rfl, rfl⟩
        case s11f2 =>
         intro w' hC v1 hv1 v2 hv2
         have hv1' : (fun v => bk = true → v = .pointer (some ⟨pb, po + 5, none⟩)) v1 := hv1
         obtain rfl : v2 = _ := hv2
         obtain ⟨-, -, -, -, -, -, -, -, -, e5⟩ := hC
         cases bk
         ·show wpList _ _ _ _ _ _
          simp only [Grow.dstOf, zz1, zz2, zz3, zz4, Act.put, zz5, zz6, zz7]
          go_wp2
          first | exact ⟨trivial, rfl, rfl⟩ | exact ⟨fun h => (by cases h), rfl, rfl⟩
         ·show wpList _ _ _ _ _ _
          simp only [Grow.dstOf, zz1, zz2, zz3, zz4, Act.put, zz5, zz6, zz7]
          obtain rfl : v1 = _ := hv1' rfl
          go_wp2
          first | exact ⟨rfl, rfl, rfl⟩ | exact ⟨fun _ => rfl, rfl, rfl⟩
        case s12f2 =>
         intro w' hC v1 hv1 v2 hv2
         have hv1' : (fun v => bk = true → v = .string m) v1 := hv1
         obtain rfl : v2 = _ := hv2
         cases bk
         ·show wpList _ _ _ _ _ _
          simp only [Grow.dstOf, zz1, zz2, zz3, zz4, Act.put, zz5, zz6, zz7]
          go_wp2
          first | exact ⟨trivial, rfl, rfl⟩ | exact ⟨fun h => (by cases h), rfl, rfl⟩
         ·show wpList _ _ _ _ _ _
          simp only [Grow.dstOf, zz1, zz2, zz3, zz4, Act.put, zz5, zz6, zz7]
          obtain rfl : v1 = _ := hv1' rfl
          go_wp2_with fail
          refine (HXM.out _).mono ?_
          rintro e w9 ⟨rfl, hw9⟩
          subst hw9
          go_wp2
          first | exact ⟨rfl, rfl, rfl⟩ | exact ⟨fun _ => rfl, rfl, rfl⟩
        case s13f2 =>
         intro w' hC v1 hv1 v2 hv2
         obtain rfl : v1 = _ := hv1
         have hv2' : (fun v => bk = true → v = .bool wm) v2 := hv2
         cases bk
         ·show wpList _ _ _ _ _ _
          simp only [Grow.dstOf, zz1, zz2, zz3, zz4, Act.put, zz5, zz6, zz7]
          go_wp2
          exact ⟨by rw [← HBB.out]; rfl, rfl, rfl⟩
         ·show wpList _ _ _ _ _ _
          simp only [Grow.dstOf, zz1, zz2, zz3, zz4, Act.put, zz5, zz6, zz7]
          obtain rfl : v2 = _ := hv2' rfl
          go_wp2
          exact ⟨by rw [← HBB.out]; rfl, rfl, rfl⟩
        case s14f2 =>
         intro v1 hv1
         obtain rfl : v1 = _ := hv1
         have g0 : w11'.cell? ⟨w.heap.size, 0, none⟩ = some (.string ⟨#[]⟩) := (r0_o.out.cell 0).trans rfl
         have f0 := r0_o.out.fre 0
         have g1 : w11'.cell? ⟨w.heap.size, 1, none⟩ = some (.int .i64 0) := (r0_o.out.cell 1).trans rfl
         have f1 := r0_o.out.fre 1
         have g2 : w11'.cell? ⟨w.heap.size, 2, none⟩ = some (.int .i64 0) := (r0_o.out.cell 2).trans rfl
         have f2 := r0_o.out.fre 2
         have g3 : w11'.cell? ⟨w.heap.size, 3, none⟩ = some (.int .i64 0) := (r0_o.out.cell 3).trans rfl
         have f3 := r0_o.out.fre 3
         have g4 : w11'.cell? ⟨w.heap.size, 4, none⟩ = some (.string ⟨#[]⟩) := (r0_o.out.cell 4).trans rfl
         have f4 := r0_o.out.fre 4
         have g5 : w11'.cell? ⟨w.heap.size, 5, none⟩ = some (.string ⟨#[]⟩) := (r0_o.out.cell 5).trans rfl
         have f5 := r0_o.out.fre 5
         have g6 : w11'.cell? ⟨w.heap.size, 6, none⟩ = some (.int .i64 0) := (r0_o.out.cell 6).trans rfl
         have f6 := r0_o.out.fre 6
         have g7 : w11'.cell? ⟨w.heap.size, 7, none⟩ = some (.int .i64 0) := (r0_o.out.cell 7).trans rfl
         have f7 := r0_o.out.fre 7
         show wpList _ _ _ _ _ w11'
         simp only [Grow.dstOf, zz1, zz3, zz4, Act.put, zz5, zz6, zz7]
         go_wp2
         exact ⟨trivial, HZ1.out.symm, rfl⟩
        case s15f2 =>
         intro w' hC v1 hv1
         obtain rfl : v1 = _ := hv1
         show wpList _ _ _ _ _ _
         simp only [Grow.dstOf, zz1, zz2, zz3, zz4, Act.put, zz5, zz6, zz7]
         go_wp2
         exact ⟨rfl, rfl, rfl⟩
        intro u0 hu0 u1 hu1 u2 hu2 u3 hu3 u4 hu4 u5 hu5 u6 hu6 u7 hu7 u8 hu8 u9 hu9 u10 hu10 u11 hu11 u12 hu12 u13 hu13 u14 hu14 u15 hu15
        obtain rfl : u15 = _ := hu15 rfl
        refine Grow.TailV.fin w12' rfl ?_
        simp only [Act.put, zz5, zz6, zz7]
        replace HW := HW1
        clear HW0 HW1
        replace HR_o := r1_o
        clear r0_o r1_o
        replace HR_e := r1_e
        clear r0_e r1_e
        replace HP := x1_HP
        clear x0_HP x1_HP
        clear hu0 hu1 hu2 hu3 hu4 hu5 hu6 hu7 hu8 hu9 hu10 hu11 hu12 hu13 hu14 HZ0 HZ1
        have HN : Hid ((readO s.data.toList = some ⟨a, n1, 2, n2, k, m, 0, n3⟩ ∧ bb = true) ∨ (readO s.data.toList = none ∧ bb = false)) := Lib.hid (by
         rw [HRD'.out, hd]
         have k1 := HBK.out
         have k2 := HBB.out
         cases o3 with
         | false => exact .inr ⟨read7_no (.inr (.inr (.inr (.inl (num_none HO3.out))))), by rw [← k2, ← k1]; rfl⟩
         | true =>
          cases sk with
          | false => exact .inr ⟨read7_no (.inr (.inr (.inr (.inr (.inl HSK.out))))), by rw [← k2, ← k1]; rfl⟩
          | true =>
           cases wm with
           | false => exact .inr ⟨read7_no (.inr (.inr (.inr (.inr (.inr (.inl HWM.out)))))), by rw [← k2, ← k1]; rfl⟩
           | true => exact .inl ⟨by rw [read7_out HB1.out HB2.out (num_get HO3.out HN3.out) HWA.out HSK.out HWM.out, bs_data, bs_data, bs_data], by rw [← k2, ← k1]; rfl⟩)
        have c_o_0 : w12'.cell? ⟨w.heap.size, 0, none⟩ = some (.string a) := (HR_o.out.cell 0).trans rfl
        have c_o_1 : w12'.cell? ⟨w.heap.size, 1, none⟩ = some (.int .i64 (n1)) := (HR_o.out.cell 1).trans rfl
        have c_o_2 : w12'.cell? ⟨w.heap.size, 2, none⟩ = some (.int .i64 (2)) := (HR_o.out.cell 2).trans rfl
        have c_o_3 : w12'.cell? ⟨w.heap.size, 3, none⟩ = some (.int .i64 (n2)) := (HR_o.out.cell 3).trans rfl
        have c_o_4 : w12'.cell? ⟨w.heap.size, 4, none⟩ = some (.string k) := (HR_o.out.cell 4).trans rfl
        have c_o_5 : w12'.cell? ⟨w.heap.size, 5, none⟩ = some (.string m) := (HR_o.out.cell 5).trans rfl
        have c_o_6 : w12'.cell? ⟨w.heap.size, 6, none⟩ = some (.int .i64 0) := (HR_o.out.cell 6).trans rfl
        have c_o_7 : w12'.cell? ⟨w.heap.size, 7, none⟩ = some (.int .i64 (n3)) := (HR_o.out.cell 7).trans rfl
        go_wp2
        exact bodyPost_ret (v := .tuple #[.agg #[.string a, .int .i64 (n1), .int .i64 (2), .int .i64 (n2), .string k, .string m, .int .i64 0, .int .i64 (n3)], .bool bb]) (by simp [results, Tryz.results23, go_sem, c_o_0, c_o_1, c_o_2, c_o_3, c_o_4, c_o_5, c_o_6, c_o_7]) rfl ⟨⟨a, n1, 2, n2, k, m, 0, n3⟩, _, rfl, ⟨Nat.le_trans HZa.out (by decide), Nat.le_trans HZk.out (by decide), Nat.le_trans HZm.out (by decide)⟩, HN.out, HW.out⟩
       ·have q2 : (d.toList == [111, 117, 116, 99, 111, 109, 101]) = false := by rw [ByteArray.toList_eq]; exact beq_eq_false_iff_ne.2 hd2
        have HN : Hid (readO s.data.toList = none) := Lib.hid (HRD'.out.trans (read7_no (.inr (.inr (.inr (.inr (.inr (.inr ⟨hd, hd2⟩))))))))
        clear e_3 c_e_0 c_e_1 c_e_2 c_e_3 c_e_4 c_e_5 c_e_6 c_e_7 f_e_0 f_e_1 f_e_2 f_e_3 f_e_4 f_e_5 f_e_6 f_e_7
        have e_3 : w6'.cell? ⟨pb, po + 3, none⟩ = some (.string d) := HP.out 3 (by simp)
        have c_o_0 : w6'.cell? ⟨w.heap.size, 0, none⟩ = some (.string ⟨#[]⟩) := (HR_o.out.cell 0).trans rfl
        have c_o_1 : w6'.cell? ⟨w.heap.size, 1, none⟩ = some (.int .i64 0) := (HR_o.out.cell 1).trans rfl
        have c_o_2 : w6'.cell? ⟨w.heap.size, 2, none⟩ = some (.int .i64 0) := (HR_o.out.cell 2).trans rfl
        have c_o_3 : w6'.cell? ⟨w.heap.size, 3, none⟩ = some (.int .i64 0) := (HR_o.out.cell 3).trans rfl
        have c_o_4 : w6'.cell? ⟨w.heap.size, 4, none⟩ = some (.string ⟨#[]⟩) := (HR_o.out.cell 4).trans rfl
        have c_o_5 : w6'.cell? ⟨w.heap.size, 5, none⟩ = some (.string ⟨#[]⟩) := (HR_o.out.cell 5).trans rfl
        have c_o_6 : w6'.cell? ⟨w.heap.size, 6, none⟩ = some (.int .i64 0) := (HR_o.out.cell 6).trans rfl
        have c_o_7 : w6'.cell? ⟨w.heap.size, 7, none⟩ = some (.int .i64 0) := (HR_o.out.cell 7).trans rfl
        have f_o_0 := HR_o.out.fre 0
        have f_o_1 := HR_o.out.fre 1
        have f_o_2 := HR_o.out.fre 2
        have f_o_3 := HR_o.out.fre 3
        have f_o_4 := HR_o.out.fre 4
        have f_o_5 := HR_o.out.fre 5
        have f_o_6 := HR_o.out.fre 6
        have f_o_7 := HR_o.out.fre 7
        go_wp2
        obtain ⟨w7', hX⟩ : ∃ Z9, Z9 = ((((((((w6'.setCell ⟨w.heap.size, 0, none⟩ (.string ⟨#[]⟩)).setCell ⟨w.heap.size, 1, none⟩ (.int .i64 0)).setCell ⟨w.heap.size, 2, none⟩ (.int .i64 0)).setCell ⟨w.heap.size, 3, none⟩ (.int .i64 0)).setCell ⟨w.heap.size, 4, none⟩ (.string ⟨#[]⟩)).setCell ⟨w.heap.size, 5, none⟩ (.string ⟨#[]⟩)).setCell ⟨w.heap.size, 6, none⟩ (.int .i64 0)).setCell ⟨w.heap.size, 7, none⟩ (.int .i64 0)) := ⟨_, rfl⟩
        rw [← hX]
        have n_o : Hid (RH w7' w.heap.size #[.string ⟨#[]⟩, .int .i64 0, .int .i64 0, .int .i64 0, .string ⟨#[]⟩, .string ⟨#[]⟩, .int .i64 0, .int .i64 0] 31) := by rw [hX]; exact Lib.hid (((((((((HR_o.out).set 0 (.string ⟨#[]⟩)).set 1 (.int .i64 0)).set 2 (.int .i64 0)).set 3 (.int .i64 0)).set 4 (.string ⟨#[]⟩)).set 5 (.string ⟨#[]⟩)).set 6 (.int .i64 0)).set 7 (.int .i64 0))
        have n_e : Hid (RH w7' b_e #[.string a, .int .i64 (n1), .int .i64 0, .int .i64 (n2), .string ⟨#[]⟩, .string ⟨#[]⟩, .int .i64 0, .int .i64 0] 31) := by rw [hX]; exact Lib.hid (zzo (zzo (zzo (zzo (zzo (zzo (zzo (zzo (HR_e.out) (by omega)) (by omega)) (by omega)) (by omega)) (by omega)) (by omega)) (by omega)) (by omega))
        have HK_ : ∀ p : Addr, p.block ≠ w.heap.size → w7'.cell? p = w6'.cell? p := fun p hp => by rw [hX]; exact (cs_vr hp).trans ((cs_vr hp).trans ((cs_vr hp).trans ((cs_vr hp).trans ((cs_vr hp).trans ((cs_vr hp).trans ((cs_vr hp).trans (cs_vr hp)))))))
        have n_HP : Hid (Pcs w7' pb po [a, b, c, d, k, m, z]) := Lib.hid (HP.out.far HR_o.out.box (show pb ≠ w.heap.size by omega) HK_)
        have nW : Hid (Below w.heap.size w w7') := by rw [hX]; exact Lib.hid (zzw (zzw (zzw (zzw (zzw (zzw (zzw (zzw (HW.out) (by omega)) (by omega)) (by omega)) (by omega)) (by omega)) (by omega)) (by omega)) (by omega))
        clear e_3 c_o_0 c_o_1 c_o_2 c_o_3 c_o_4 c_o_5 c_o_6 c_o_7 f_o_0 f_o_1 f_o_2 f_o_3 f_o_4 f_o_5 f_o_6 f_o_7
        clear hX HK_ HW HR_o HR_e HP
        have HR_o := n_o; clear n_o
        have HR_e := n_e; clear n_e
        have HP := n_HP; clear n_HP
        have HW := nW; clear nW
        have c_o_0 : w7'.cell? ⟨w.heap.size, 0, none⟩ = some (.string ⟨#[]⟩) := (HR_o.out.cell 0).trans rfl
        have c_o_1 : w7'.cell? ⟨w.heap.size, 1, none⟩ = some (.int .i64 0) := (HR_o.out.cell 1).trans rfl
        have c_o_2 : w7'.cell? ⟨w.heap.size, 2, none⟩ = some (.int .i64 0) := (HR_o.out.cell 2).trans rfl
        have c_o_3 : w7'.cell? ⟨w.heap.size, 3, none⟩ = some (.int .i64 0) := (HR_o.out.cell 3).trans rfl
        have c_o_4 : w7'.cell? ⟨w.heap.size, 4, none⟩ = some (.string ⟨#[]⟩) := (HR_o.out.cell 4).trans rfl
        have c_o_5 : w7'.cell? ⟨w.heap.size, 5, none⟩ = some (.string ⟨#[]⟩) := (HR_o.out.cell 5).trans rfl
        have c_o_6 : w7'.cell? ⟨w.heap.size, 6, none⟩ = some (.int .i64 0) := (HR_o.out.cell 6).trans rfl
        have c_o_7 : w7'.cell? ⟨w.heap.size, 7, none⟩ = some (.int .i64 0) := (HR_o.out.cell 7).trans rfl
        exact bodyPost_ret (v := .tuple #[.agg #[.string ⟨#[]⟩, .int .i64 0, .int .i64 0, .int .i64 0, .string ⟨#[]⟩, .string ⟨#[]⟩, .int .i64 0, .int .i64 0], .bool false]) (by simp [results, Tryz.results23, go_sem, c_o_0, c_o_1, c_o_2, c_o_3, c_o_4, c_o_5, c_o_6, c_o_7]) rfl ⟨⟨⟨#[]⟩, 0, 0, 0, ⟨#[]⟩, ⟨#[]⟩, 0, 0⟩, _, rfl, ⟨zle, zle, zle⟩, .inr ⟨HN.out, rfl⟩, HW.out⟩
  ·have HN : Hid (readO s.data.toList = none) := Lib.hid (HRD.out.trans (readW_len (by rw [List.length_map, hn]; exact h4) (by rw [List.length_map, hn]; exact h7)))
   have h4' : ((n : Int) != 4) = true := by simp; omega
   have h7' : ((n : Int) != 7) = true := by simp; omega
   clear h4 h7 hn HSL
   have c_o_0 : w2'.cell? ⟨w.heap.size, 0, none⟩ = some (.string ⟨#[]⟩) := (HR_o.out.cell 0).trans rfl
   have c_o_1 : w2'.cell? ⟨w.heap.size, 1, none⟩ = some (.int .i64 0) := (HR_o.out.cell 1).trans rfl
   have c_o_2 : w2'.cell? ⟨w.heap.size, 2, none⟩ = some (.int .i64 0) := (HR_o.out.cell 2).trans rfl
   have c_o_3 : w2'.cell? ⟨w.heap.size, 3, none⟩ = some (.int .i64 0) := (HR_o.out.cell 3).trans rfl
   have c_o_4 : w2'.cell? ⟨w.heap.size, 4, none⟩ = some (.string ⟨#[]⟩) := (HR_o.out.cell 4).trans rfl
   have c_o_5 : w2'.cell? ⟨w.heap.size, 5, none⟩ = some (.string ⟨#[]⟩) := (HR_o.out.cell 5).trans rfl
   have c_o_6 : w2'.cell? ⟨w.heap.size, 6, none⟩ = some (.int .i64 0) := (HR_o.out.cell 6).trans rfl
   have c_o_7 : w2'.cell? ⟨w.heap.size, 7, none⟩ = some (.int .i64 0) := (HR_o.out.cell 7).trans rfl
   have f_o_0 := HR_o.out.fre 0
   have f_o_1 := HR_o.out.fre 1
   have f_o_2 := HR_o.out.fre 2
   have f_o_3 := HR_o.out.fre 3
   have f_o_4 := HR_o.out.fre 4
   have f_o_5 := HR_o.out.fre 5
   have f_o_6 := HR_o.out.fre 6
   have f_o_7 := HR_o.out.fre 7
   go_wp2
   obtain ⟨w3', hX⟩ : ∃ Z9, Z9 = ((((((((w2'.setCell ⟨w.heap.size, 0, none⟩ (.string ⟨#[]⟩)).setCell ⟨w.heap.size, 1, none⟩ (.int .i64 0)).setCell ⟨w.heap.size, 2, none⟩ (.int .i64 0)).setCell ⟨w.heap.size, 3, none⟩ (.int .i64 0)).setCell ⟨w.heap.size, 4, none⟩ (.string ⟨#[]⟩)).setCell ⟨w.heap.size, 5, none⟩ (.string ⟨#[]⟩)).setCell ⟨w.heap.size, 6, none⟩ (.int .i64 0)).setCell ⟨w.heap.size, 7, none⟩ (.int .i64 0)) := ⟨_, rfl⟩
   rw [← hX]
   have n_o : Hid (RH w3' w.heap.size #[.string ⟨#[]⟩, .int .i64 0, .int .i64 0, .int .i64 0, .string ⟨#[]⟩, .string ⟨#[]⟩, .int .i64 0, .int .i64 0] 31) := by rw [hX]; exact Lib.hid (((((((((HR_o.out).set 0 (.string ⟨#[]⟩)).set 1 (.int .i64 0)).set 2 (.int .i64 0)).set 3 (.int .i64 0)).set 4 (.string ⟨#[]⟩)).set 5 (.string ⟨#[]⟩)).set 6 (.int .i64 0)).set 7 (.int .i64 0))
   have HK_ : ∀ p : Addr, p.block ≠ w.heap.size → w3'.cell? p = w2'.cell? p := fun p hp => by rw [hX]; exact (cs_vr hp).trans ((cs_vr hp).trans ((cs_vr hp).trans ((cs_vr hp).trans ((cs_vr hp).trans ((cs_vr hp).trans ((cs_vr hp).trans (cs_vr hp)))))))
   have nW : Hid (Below w.heap.size w w3') := by rw [hX]; exact Lib.hid (zzw (zzw (zzw (zzw (zzw (zzw (zzw (zzw (HW.out) (by omega)) (by omega)) (by omega)) (by omega)) (by omega)) (by omega)) (by omega)) (by omega))
   clear c_o_0 c_o_1 c_o_2 c_o_3 c_o_4 c_o_5 c_o_6 c_o_7 f_o_0 f_o_1 f_o_2 f_o_3 f_o_4 f_o_5 f_o_6 f_o_7
   clear hX HK_ HW HR_o 
   have HR_o := n_o; clear n_o
   have HW := nW; clear nW
   have c_o_0 : w3'.cell? ⟨w.heap.size, 0, none⟩ = some (.string ⟨#[]⟩) := (HR_o.out.cell 0).trans rfl
   have c_o_1 : w3'.cell? ⟨w.heap.size, 1, none⟩ = some (.int .i64 0) := (HR_o.out.cell 1).trans rfl
   have c_o_2 : w3'.cell? ⟨w.heap.size, 2, none⟩ = some (.int .i64 0) := (HR_o.out.cell 2).trans rfl
   have c_o_3 : w3'.cell? ⟨w.heap.size, 3, none⟩ = some (.int .i64 0) := (HR_o.out.cell 3).trans rfl
   have c_o_4 : w3'.cell? ⟨w.heap.size, 4, none⟩ = some (.string ⟨#[]⟩) := (HR_o.out.cell 4).trans rfl
   have c_o_5 : w3'.cell? ⟨w.heap.size, 5, none⟩ = some (.string ⟨#[]⟩) := (HR_o.out.cell 5).trans rfl
   have c_o_6 : w3'.cell? ⟨w.heap.size, 6, none⟩ = some (.int .i64 0) := (HR_o.out.cell 6).trans rfl
   have c_o_7 : w3'.cell? ⟨w.heap.size, 7, none⟩ = some (.int .i64 0) := (HR_o.out.cell 7).trans rfl
   exact bodyPost_ret (v := .tuple #[.agg #[.string ⟨#[]⟩, .int .i64 0, .int .i64 0, .int .i64 0, .string ⟨#[]⟩, .string ⟨#[]⟩, .int .i64 0, .int .i64 0], .bool false]) (by simp [results, Tryz.results23, go_sem, c_o_0, c_o_1, c_o_2, c_o_3, c_o_4, c_o_5, c_o_6, c_o_7]) rfl ⟨⟨⟨#[]⟩, 0, 0, 0, ⟨#[]⟩, ⟨#[]⟩, 0, 0⟩, _, rfl, ⟨zle, zle, zle⟩, .inr ⟨HN.out, rfl⟩, HW.out⟩
end Tx
end Go.Proofs.YtbgbfjfboaajbaaGreatDoor
