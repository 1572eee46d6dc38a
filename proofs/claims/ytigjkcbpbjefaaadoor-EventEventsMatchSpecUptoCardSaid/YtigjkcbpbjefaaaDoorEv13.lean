/- show, Show of the reference. Printed by gen_evw.py. The walk of EventEventsMatchSpec. Printed by gen_lawev.py. -/
import Derived.Test.YtigjkcbpbjefaaaDoorEv04
import Derived.Test.YtigjkcbpbjefaaaDoorEv16
import Derived.Test.YtigjkcbpbjefaaaDoorEv09
import Derived.Test.YtigjkcbpbjefaaaDoorEv19
import Derived.Test.YtigjkcbpbjefaaaDoorEv10
import Derived.Test.YtigjkcbpbjefaaaDoorEv01
import Derived.Test.YtigjkcbpbjefaaaDoorProg
import Derived.Test.YtigjkcbpbjefaaaDoorEv00
import Derived.Test.YtigjkcbpbjefaaaDoorEv02
namespace Go.Proofs.YtigjkcbpbjefaaaDoor
open Go.RowKit
namespace Tx
open _root_.Go.Proofs.YtigjkcbpbjefaaaDoor.Nm
open _root_.Go.Proofs.YtigjkcbpbjefaaaDoor.Nt (RH RH.cell RH.box RH.lt RH.new RH.ext RH.fre RH.set RH.other)
set_option maxRecDepth 100000 in
set_option maxHeartbeats 16000000 in
theorem refshowE_at (e : Ev) (h : RightE e) (w : World) (ht : Tb w) : Calls Tryd.prog 13 #[.agg (evC e)] w fun r w' => r = .returned (.string (stB (showE e))) ∧ Below w.heap.size w w' := by
 have HT0 := Lib.hid ht
 obtain ⟨sh, nu, ki, ti, ke, na, ar, nn⟩ := e
 obtain ⟨g1, g2, g3, g4⟩ := h
 simp only at g1 g2 g3 g4
 have hz1 : sh.size ≤ 40 := by
  have h9 : sh.data.toList.length = sh.size := Array.length_toList
  have := (name_words g1).2.2; omega
 have HK := Lib.hid g4
 obtain ⟨sn, hqsn⟩ : ∃ z, stB (itoaS nu) = z := ⟨_, rfl⟩
 have hzsn : sn.size ≤ 14 := by rw [← hqsn, stB_size]; exact itoaS_length (by omega)
 have HIsn := Lib.hid (fun W9 t9 => (by have h9 := itoaI_at (nu) (by omega) (by omega) W9 t9; rw [hqsn] at h9; exact h9 : Calls Tryd.prog 21 #[.int .i64 (nu)] W9 fun e w' => e = .returned (.string sn) ∧ Below W9.heap.size W9 w'))
 have HQsn := Lib.hid hqsn
 clear hqsn
 obtain ⟨st, hqst⟩ : ∃ z, stB (itoaS ti) = z := ⟨_, rfl⟩
 have hzst : st.size ≤ 14 := by rw [← hqst, stB_size]; exact itoaS_length (by omega)
 have HIst := Lib.hid (fun W9 t9 => (by have h9 := itoaI_at (ti) (by omega) (by omega) W9 t9; rw [hqst] at h9; exact h9 : Calls Tryd.prog 21 #[.int .i64 (ti)] W9 fun e w' => e = .returned (.string st) ∧ Below W9.heap.size W9 w'))
 have HQst := Lib.hid hqst
 clear hqst
 clear ht g1 g2 g3 g4
 go_enter Tryd.func13, Tryd.ntmps13
 go_upto_region 1 with (fail)
 refine wp_vr1 fun w1' hbz hR0 => ?_
 have HR_v : Hid (RH w1' w.heap.size #[.string sh, .int .i64 (nu), .int .i64 (ki), .int .i64 (ti), .string ke, .string na, .int .i64 (ar), .int .i64 (nn)] 23) := Lib.hid hR0
 have HW := Lib.hid hbz
 clear hbz hR0
 have c_v_0 : w1'.cell? ⟨w.heap.size, 0, none⟩ = some (.string sh) := (HR_v.out.cell 0).trans rfl
 have c_v_1 : w1'.cell? ⟨w.heap.size, 1, none⟩ = some (.int .i64 (nu)) := (HR_v.out.cell 1).trans rfl
 have c_v_2 : w1'.cell? ⟨w.heap.size, 2, none⟩ = some (.int .i64 (ki)) := (HR_v.out.cell 2).trans rfl
 have c_v_3 : w1'.cell? ⟨w.heap.size, 3, none⟩ = some (.int .i64 (ti)) := (HR_v.out.cell 3).trans rfl
 have c_v_4 : w1'.cell? ⟨w.heap.size, 4, none⟩ = some (.string ke) := (HR_v.out.cell 4).trans rfl
 have c_v_5 : w1'.cell? ⟨w.heap.size, 5, none⟩ = some (.string na) := (HR_v.out.cell 5).trans rfl
 have c_v_6 : w1'.cell? ⟨w.heap.size, 6, none⟩ = some (.int .i64 (ar)) := (HR_v.out.cell 6).trans rfl
 have c_v_7 : w1'.cell? ⟨w.heap.size, 7, none⟩ = some (.int .i64 (nn)) := (HR_v.out.cell 7).trans rfl
 refine Grow.wp_region_grow 12 [TP.eq (.pointer (some ⟨w.heap.size, 0, none⟩)), TP.eq (.string sh), TP.eq (.string (sh ++ (⟨#[32]⟩ : ByteArray))), TP.eq (.pointer (some ⟨w.heap.size, 1, none⟩)), TP.eq (.int .i64 (nu)), TP.eq (.string sn), TP.eq (.string (sh ++ (⟨#[32]⟩ : ByteArray) ++ sn)), TP.eq (.string (sh ++ (⟨#[32]⟩ : ByteArray) ++ sn ++ (⟨#[32]⟩ : ByteArray))), TP.eq (.pointer (some ⟨w.heap.size, 3, none⟩)), TP.eq (.int .i64 (ti)), TP.eq (.string st), TP.eq (.string (sh ++ (⟨#[32]⟩ : ByteArray) ++ sn ++ (⟨#[32]⟩ : ByteArray) ++ st))] [[], [0], [1], [], [3], [4], [2, 5], [6], [], [8], [9], [7, 10]] (by kernel_rfl) (by kernel_rfl) ⟨?o0g, ?o1g, ?o2g, ?o3g, ?o4g, ?o5g, ?o6g, ?o7g, ?o8g, ?o9g, ?o10g, ?o11g, trivial⟩ ?_
 case o0g | o3g | o8g =>
  intro w' hb
  show wpList _ _ _ _ _ _
  go_wp2
  exact ⟨rfl, Below.refl _ _, rfl⟩
 case o1g =>
  intro w' hb v1 hv1
  obtain rfl : v1 = _ := hv1
  have c_v_0' := zzc hb c_v_0
  show wpList _ _ _ _ _ _
  simp only [Grow.dstOf, zz1, zz3, zz4, Act.put, zz5, zz6, zz7]
  go_wp2
  exact ⟨rfl, Below.refl _ _, rfl⟩
 case o2g | o7g =>
  intro w' hb v1 hv1
  obtain rfl : v1 = _ := hv1
  show wpList _ _ _ _ _ _
  simp only [Grow.dstOf, zz1, zz2, zz3, zz4, Act.put, zz5, zz6, zz7]
  go_wp2
  exact ⟨rfl, Below.refl _ _, rfl⟩
 case o4g | o9g =>
  intro w' hb v1 hv1
  obtain rfl : v1 = _ := hv1
  have c_v_1' := zzc hb c_v_1
  have c_v_3' := zzc hb c_v_3
  show wpList _ _ _ _ _ _
  simp only [Grow.dstOf, zz1, zz2, zz3, zz4, Act.put, zz5, zz6, zz7]
  go_wp2
  exact ⟨rfl, Below.refl _ _, rfl⟩
 case o5g =>
  intro w' hb v1 hv1
  obtain rfl : v1 = _ := hv1
  show wpList _ _ _ _ _ _
  simp only [Grow.dstOf, zz1, zz2, zz3, zz4, Act.put, zz5, zz6, zz7]
  go_wp2_with fail
  refine (HIsn.out w' (HT0.out.ext (ext_trans HW.out hb))).mono ?_
  rintro e wz ⟨rfl, hbz⟩
  go_wp2
  exact ⟨rfl, hbz, rfl⟩
 case o6g | o11g =>
  intro w' hb v1 hv1 v2 hv2
  obtain rfl : v1 = _ := hv1
  obtain rfl : v2 = _ := hv2
  show wpList _ _ _ _ _ _
  simp only [Grow.dstOf, zz1, zz2, zz3, zz4, Act.put, zz5, zz6, zz7]
  go_wp2
  exact ⟨rfl, Below.refl _ _, rfl⟩
 case o10g =>
  intro w' hb v1 hv1
  obtain rfl : v1 = _ := hv1
  show wpList _ _ _ _ _ _
  simp only [Grow.dstOf, zz1, zz2, zz3, zz4, Act.put, zz5, zz6, zz7]
  go_wp2_with fail
  refine (HIst.out w' (HT0.out.ext (ext_trans HW.out hb))).mono ?_
  rintro e wz ⟨rfl, hbz⟩
  go_wp2
  exact ⟨rfl, hbz, rfl⟩
 intro w2' hbz u0 hu0 u1 hu1 u2 hu2 u3 hu3 u4 hu4 u5 hu5 u6 hu6 u7 hu7 u8 hu8 u9 hu9 u10 hu10 u11 hu11
 obtain rfl : u11 = _ := hu11
 clear hu0 hu1 hu2 hu3 hu4 hu5 hu6 hu7 hu8 hu9 hu10
 replace HR_v := Lib.hid (HR_v.out.ext hbz)
 replace HW := Lib.hid (ext_trans HW.out hbz)
 clear c_v_0 c_v_1 c_v_2 c_v_3 c_v_4 c_v_5 c_v_6 c_v_7
 clear hbz
 show wpList _ _ _ _ _ _
 simp only [Act.put, zz5, zz6, zz7]
 obtain ⟨t0, ht0⟩ : ∃ z, sh ++ (⟨#[32]⟩ : ByteArray) ++ sn ++ (⟨#[32]⟩ : ByteArray) ++ st = z := ⟨_, rfl⟩
 have hzt : t0.size ≤ 70 := by
  rw [← ht0]
  simp only [ByteArray.size_append]
  have h9 : (⟨#[32]⟩ : ByteArray).size = 1 := rfl
  omega
 rw [ht0]
 have HT := Lib.hid ht0
 clear ht0 HIsn HIst hzsn hzst hz1
 rcases HK.out with ⟨rfl, -⟩ | ⟨rfl, g5, g6, g7, g8⟩ | ⟨rfl, g5, g6, g7, g8⟩
 ·clear HK
  have c_v_0 : w2'.cell? ⟨w.heap.size, 0, none⟩ = some (.string sh) := (HR_v.out.cell 0).trans rfl
  have c_v_1 : w2'.cell? ⟨w.heap.size, 1, none⟩ = some (.int .i64 (nu)) := (HR_v.out.cell 1).trans rfl
  have c_v_2 : w2'.cell? ⟨w.heap.size, 2, none⟩ = some (.int .i64 (3)) := (HR_v.out.cell 2).trans rfl
  have c_v_3 : w2'.cell? ⟨w.heap.size, 3, none⟩ = some (.int .i64 (ti)) := (HR_v.out.cell 3).trans rfl
  have c_v_4 : w2'.cell? ⟨w.heap.size, 4, none⟩ = some (.string ke) := (HR_v.out.cell 4).trans rfl
  have c_v_5 : w2'.cell? ⟨w.heap.size, 5, none⟩ = some (.string na) := (HR_v.out.cell 5).trans rfl
  have c_v_6 : w2'.cell? ⟨w.heap.size, 6, none⟩ = some (.int .i64 (ar)) := (HR_v.out.cell 6).trans rfl
  have c_v_7 : w2'.cell? ⟨w.heap.size, 7, none⟩ = some (.int .i64 (nn)) := (HR_v.out.cell 7).trans rfl
  have HN := Lib.hid (by have h9 := show_mark sh nu ti ke na ar nn; rw [HQsn.out, HQst.out, HT.out] at h9; exact h9 : t0 ++ (⟨#[32, 109, 97, 114, 107]⟩ : ByteArray) = stB (showE ⟨sh, nu, 3, ti, ke, na, ar, nn⟩))
  go_wp2
  exact bodyPost_ret (v := .string (t0 ++ ⟨#[32, 109, 97, 114, 107]⟩)) (by simp [results, Tryd.results13, go_sem]) rfl ⟨by rw [HN.out], HW.out⟩
 ·have hz5 : ke.size ≤ 100 := by
   have h9 : ke.data.toList.length = ke.size := Array.length_toList
   have := (key_seen g5).2.2; omega
  have hz6 : na.size ≤ 40 := by
   have h9 : na.data.toList.length = na.size := Array.length_toList
   have := (name_words g6).2.2; omega
  obtain ⟨sx, hqsx⟩ : ∃ z, stB (itoaS ar) = z := ⟨_, rfl⟩
  have hzsx : sx.size ≤ 14 := by rw [← hqsx, stB_size]; exact itoaS_length (by omega)
  have HIsx := Lib.hid (fun W9 t9 => (by have h9 := itoaI_at (ar) (by omega) (by omega) W9 t9; rw [hqsx] at h9; exact h9 : Calls Tryd.prog 21 #[.int .i64 (ar)] W9 fun e w' => e = .returned (.string sx) ∧ Below W9.heap.size W9 w'))
  have HQsx := Lib.hid hqsx
  clear hqsx
  have HN := Lib.hid (by have h9 := show_exp sh nu ti ke na ar nn; rw [HQsn.out, HQst.out, HT.out, HQsx.out] at h9; exact h9 : t0 ++ (⟨#[32, 101, 120, 112, 111, 115, 117, 114, 101, 32]⟩ : ByteArray) ++ ke ++ (⟨#[32]⟩ : ByteArray) ++ na ++ (⟨#[32]⟩ : ByteArray) ++ sx = stB (showE ⟨sh, nu, 1, ti, ke, na, ar, nn⟩))
  clear g5 g6 g7 g8 HK
  have c_v_0 : w2'.cell? ⟨w.heap.size, 0, none⟩ = some (.string sh) := (HR_v.out.cell 0).trans rfl
  have c_v_1 : w2'.cell? ⟨w.heap.size, 1, none⟩ = some (.int .i64 (nu)) := (HR_v.out.cell 1).trans rfl
  have c_v_2 : w2'.cell? ⟨w.heap.size, 2, none⟩ = some (.int .i64 (1)) := (HR_v.out.cell 2).trans rfl
  have c_v_3 : w2'.cell? ⟨w.heap.size, 3, none⟩ = some (.int .i64 (ti)) := (HR_v.out.cell 3).trans rfl
  have c_v_4 : w2'.cell? ⟨w.heap.size, 4, none⟩ = some (.string ke) := (HR_v.out.cell 4).trans rfl
  have c_v_5 : w2'.cell? ⟨w.heap.size, 5, none⟩ = some (.string na) := (HR_v.out.cell 5).trans rfl
  have c_v_6 : w2'.cell? ⟨w.heap.size, 6, none⟩ = some (.int .i64 (ar)) := (HR_v.out.cell 6).trans rfl
  have c_v_7 : w2'.cell? ⟨w.heap.size, 7, none⟩ = some (.int .i64 (nn)) := (HR_v.out.cell 7).trans rfl
  go_upto_region 4 with (fail)
  refine Grow.wp_region_grow 14 [TP.eq (.string (t0)), TP.eq (.string (t0 ++ (⟨#[32, 101, 120, 112, 111, 115, 117, 114, 101, 32]⟩ : ByteArray))), TP.eq (.pointer (some ⟨w.heap.size, 4, none⟩)), TP.eq (.string ke), TP.eq (.string (t0 ++ (⟨#[32, 101, 120, 112, 111, 115, 117, 114, 101, 32]⟩ : ByteArray) ++ ke)), TP.eq (.string (t0 ++ (⟨#[32, 101, 120, 112, 111, 115, 117, 114, 101, 32]⟩ : ByteArray) ++ ke ++ (⟨#[32]⟩ : ByteArray))), TP.eq (.pointer (some ⟨w.heap.size, 5, none⟩)), TP.eq (.string na), TP.eq (.string (t0 ++ (⟨#[32, 101, 120, 112, 111, 115, 117, 114, 101, 32]⟩ : ByteArray) ++ ke ++ (⟨#[32]⟩ : ByteArray) ++ na)), TP.eq (.string (t0 ++ (⟨#[32, 101, 120, 112, 111, 115, 117, 114, 101, 32]⟩ : ByteArray) ++ ke ++ (⟨#[32]⟩ : ByteArray) ++ na ++ (⟨#[32]⟩ : ByteArray))), TP.eq (.pointer (some ⟨w.heap.size, 6, none⟩)), TP.eq (.int .i64 (ar)), TP.eq (.string sx), TP.eq (.string (t0 ++ (⟨#[32, 101, 120, 112, 111, 115, 117, 114, 101, 32]⟩ : ByteArray) ++ ke ++ (⟨#[32]⟩ : ByteArray) ++ na ++ (⟨#[32]⟩ : ByteArray) ++ sx))] [[], [0], [], [2], [1, 3], [4], [], [6], [5, 7], [8], [], [10], [11], [9, 12]] (by kernel_rfl) (by kernel_rfl) ⟨?o0g1, ?o1g1, ?o2g1, ?o3g1, ?o4g1, ?o5g1, ?o6g1, ?o7g1, ?o8g1, ?o9g1, ?o10g1, ?o11g1, ?o12g1, ?o13g1, trivial⟩ ?_
  case o0g1 | o2g1 | o6g1 | o10g1 =>
   intro w' hb
   show wpList _ _ _ _ _ _
   go_wp2
   exact ⟨rfl, Below.refl _ _, rfl⟩
  case o1g1 =>
   intro w' hb v1 hv1
   obtain rfl : v1 = _ := hv1
   show wpList _ _ _ _ _ _
   simp only [Grow.dstOf, zz1, zz3, zz4, Act.put, zz5, zz6, zz7]
   go_wp2
   exact ⟨rfl, Below.refl _ _, rfl⟩
  case o3g1 | o7g1 | o11g1 =>
   intro w' hb v1 hv1
   obtain rfl : v1 = _ := hv1
   have c_v_4' := zzc hb c_v_4
   have c_v_5' := zzc hb c_v_5
   have c_v_6' := zzc hb c_v_6
   show wpList _ _ _ _ _ _
   simp only [Grow.dstOf, zz1, zz2, zz3, zz4, Act.put, zz5, zz6, zz7]
   go_wp2
   exact ⟨rfl, Below.refl _ _, rfl⟩
  case o4g1 | o8g1 | o13g1 =>
   intro w' hb v1 hv1 v2 hv2
   obtain rfl : v1 = _ := hv1
   obtain rfl : v2 = _ := hv2
   show wpList _ _ _ _ _ _
   simp only [Grow.dstOf, zz1, zz2, zz3, zz4, Act.put, zz5, zz6, zz7]
   go_wp2
   exact ⟨rfl, Below.refl _ _, rfl⟩
  case o5g1 | o9g1 =>
   intro w' hb v1 hv1
   obtain rfl : v1 = _ := hv1
   show wpList _ _ _ _ _ _
   simp only [Grow.dstOf, zz1, zz2, zz3, zz4, Act.put, zz5, zz6, zz7]
   go_wp2
   exact ⟨rfl, Below.refl _ _, rfl⟩
  case o12g1 =>
   intro w' hb v1 hv1
   obtain rfl : v1 = _ := hv1
   show wpList _ _ _ _ _ _
   simp only [Grow.dstOf, zz1, zz2, zz3, zz4, Act.put, zz5, zz6, zz7]
   go_wp2_with fail
   refine (HIsx.out w' (HT0.out.ext (ext_trans HW.out hb))).mono ?_
   rintro e wz ⟨rfl, hbz⟩
   go_wp2
   exact ⟨rfl, hbz, rfl⟩
  intro w3' hbz u0 hu0 u1 hu1 u2 hu2 u3 hu3 u4 hu4 u5 hu5 u6 hu6 u7 hu7 u8 hu8 u9 hu9 u10 hu10 u11 hu11 u12 hu12 u13 hu13
  obtain rfl : u13 = _ := hu13
  clear hu0 hu1 hu2 hu3 hu4 hu5 hu6 hu7 hu8 hu9 hu10 hu11 hu12
  replace HR_v := Lib.hid (HR_v.out.ext hbz)
  replace HW := Lib.hid (ext_trans HW.out hbz)
  clear c_v_0 c_v_1 c_v_2 c_v_3 c_v_4 c_v_5 c_v_6 c_v_7
  clear hbz
  show wpList _ _ _ _ _ _
  simp only [Act.put, zz5, zz6, zz7]
  obtain ⟨sz, hsz⟩ : ∃ z, t0 ++ (⟨#[32, 101, 120, 112, 111, 115, 117, 114, 101, 32]⟩ : ByteArray) ++ ke ++ (⟨#[32]⟩ : ByteArray) ++ na ++ (⟨#[32]⟩ : ByteArray) ++ sx = z := ⟨_, rfl⟩
  rw [hsz]
  have HS := Lib.hid hsz
  clear hsz
  go_wp2
  exact bodyPost_ret (v := .string sz) (by simp [results, Tryd.results13, go_sem]) rfl ⟨by rw [← HS.out, HN.out], HW.out⟩
 ·have hz5 : ke.size ≤ 100 := by
   have h9 : ke.data.toList.length = ke.size := Array.length_toList
   have := (key_seen g5).2.2; omega
  have hz6 : na.size ≤ 40 := by
   have h9 : na.data.toList.length = na.size := Array.length_toList
   have := (name_words g6).2.2; omega
  obtain ⟨sx, hqsx⟩ : ∃ z, stB (itoaS nn) = z := ⟨_, rfl⟩
  have hzsx : sx.size ≤ 14 := by rw [← hqsx, stB_size]; exact itoaS_length (by omega)
  have HIsx := Lib.hid (fun W9 t9 => (by have h9 := itoaI_at (nn) (by omega) (by omega) W9 t9; rw [hqsx] at h9; exact h9 : Calls Tryd.prog 21 #[.int .i64 (nn)] W9 fun e w' => e = .returned (.string sx) ∧ Below W9.heap.size W9 w'))
  have HQsx := Lib.hid hqsx
  clear hqsx
  have HN := Lib.hid (by have h9 := show_out sh nu ti ke na ar nn; rw [HQsn.out, HQst.out, HT.out, HQsx.out] at h9; exact h9 : t0 ++ (⟨#[32, 111, 117, 116, 99, 111, 109, 101, 32]⟩ : ByteArray) ++ ke ++ (⟨#[32]⟩ : ByteArray) ++ na ++ (⟨#[32]⟩ : ByteArray) ++ sx = stB (showE ⟨sh, nu, 2, ti, ke, na, ar, nn⟩))
  clear g5 g6 g7 g8 HK
  have c_v_0 : w2'.cell? ⟨w.heap.size, 0, none⟩ = some (.string sh) := (HR_v.out.cell 0).trans rfl
  have c_v_1 : w2'.cell? ⟨w.heap.size, 1, none⟩ = some (.int .i64 (nu)) := (HR_v.out.cell 1).trans rfl
  have c_v_2 : w2'.cell? ⟨w.heap.size, 2, none⟩ = some (.int .i64 (2)) := (HR_v.out.cell 2).trans rfl
  have c_v_3 : w2'.cell? ⟨w.heap.size, 3, none⟩ = some (.int .i64 (ti)) := (HR_v.out.cell 3).trans rfl
  have c_v_4 : w2'.cell? ⟨w.heap.size, 4, none⟩ = some (.string ke) := (HR_v.out.cell 4).trans rfl
  have c_v_5 : w2'.cell? ⟨w.heap.size, 5, none⟩ = some (.string na) := (HR_v.out.cell 5).trans rfl
  have c_v_6 : w2'.cell? ⟨w.heap.size, 6, none⟩ = some (.int .i64 (ar)) := (HR_v.out.cell 6).trans rfl
  have c_v_7 : w2'.cell? ⟨w.heap.size, 7, none⟩ = some (.int .i64 (nn)) := (HR_v.out.cell 7).trans rfl
  go_upto_region 6 with (fail)
  refine Grow.wp_region_grow 14 [TP.eq (.string (t0)), TP.eq (.string (t0 ++ (⟨#[32, 111, 117, 116, 99, 111, 109, 101, 32]⟩ : ByteArray))), TP.eq (.pointer (some ⟨w.heap.size, 4, none⟩)), TP.eq (.string ke), TP.eq (.string (t0 ++ (⟨#[32, 111, 117, 116, 99, 111, 109, 101, 32]⟩ : ByteArray) ++ ke)), TP.eq (.string (t0 ++ (⟨#[32, 111, 117, 116, 99, 111, 109, 101, 32]⟩ : ByteArray) ++ ke ++ (⟨#[32]⟩ : ByteArray))), TP.eq (.pointer (some ⟨w.heap.size, 5, none⟩)), TP.eq (.string na), TP.eq (.string (t0 ++ (⟨#[32, 111, 117, 116, 99, 111, 109, 101, 32]⟩ : ByteArray) ++ ke ++ (⟨#[32]⟩ : ByteArray) ++ na)), TP.eq (.string (t0 ++ (⟨#[32, 111, 117, 116, 99, 111, 109, 101, 32]⟩ : ByteArray) ++ ke ++ (⟨#[32]⟩ : ByteArray) ++ na ++ (⟨#[32]⟩ : ByteArray))), TP.eq (.pointer (some ⟨w.heap.size, 7, none⟩)), TP.eq (.int .i64 (nn)), TP.eq (.string sx), TP.eq (.string (t0 ++ (⟨#[32, 111, 117, 116, 99, 111, 109, 101, 32]⟩ : ByteArray) ++ ke ++ (⟨#[32]⟩ : ByteArray) ++ na ++ (⟨#[32]⟩ : ByteArray) ++ sx))] [[], [0], [], [2], [1, 3], [4], [], [6], [5, 7], [8], [], [10], [11], [9, 12]] (by kernel_rfl) (by kernel_rfl) ⟨?o0g2, ?o1g2, ?o2g2, ?o3g2, ?o4g2, ?o5g2, ?o6g2, ?o7g2, ?o8g2, ?o9g2, ?o10g2, ?o11g2, ?o12g2, ?o13g2, trivial⟩ ?_
  case o0g2 | o2g2 | o6g2 | o10g2 =>
   intro w' hb
   show wpList _ _ _ _ _ _
   go_wp2
   exact ⟨rfl, Below.refl _ _, rfl⟩
  case o1g2 =>
   intro w' hb v1 hv1
   obtain rfl : v1 = _ := hv1
   show wpList _ _ _ _ _ _
   simp only [Grow.dstOf, zz1, zz3, zz4, Act.put, zz5, zz6, zz7]
   go_wp2
   exact ⟨rfl, Below.refl _ _, rfl⟩
  case o3g2 | o7g2 | o11g2 =>
   intro w' hb v1 hv1
   obtain rfl : v1 = _ := hv1
   have c_v_4' := zzc hb c_v_4
   have c_v_5' := zzc hb c_v_5
   have c_v_7' := zzc hb c_v_7
   show wpList _ _ _ _ _ _
   simp only [Grow.dstOf, zz1, zz2, zz3, zz4, Act.put, zz5, zz6, zz7]
   go_wp2
   exact ⟨rfl, Below.refl _ _, rfl⟩
  case o4g2 | o8g2 | o13g2 =>
   intro w' hb v1 hv1 v2 hv2
   obtain rfl : v1 = _ := hv1
   obtain rfl : v2 = _ := hv2
   show wpList _ _ _ _ _ _
   simp only [Grow.dstOf, zz1, zz2, zz3, zz4, Act.put, zz5, zz6, zz7]
   go_wp2
   exact ⟨rfl, Below.refl _ _, rfl⟩
  case o5g2 | o9g2 =>
   intro w' hb v1 hv1
   obtain rfl : v1 = _ := hv1
   show wpList _ _ _ _ _ _
   simp only [Grow.dstOf, zz1, zz2, zz3, zz4, Act.put, zz5, zz6, zz7]
   go_wp2
   exact ⟨rfl, Below.refl _ _, rfl⟩
  case o12g2 =>
   intro w' hb v1 hv1
   obtain rfl : v1 = _ := hv1
   show wpList _ _ _ _ _ _
   simp only [Grow.dstOf, zz1, zz2, zz3, zz4, Act.put, zz5, zz6, zz7]
   go_wp2_with fail
   refine (HIsx.out w' (HT0.out.ext (ext_trans HW.out hb))).mono ?_
   rintro e wz ⟨rfl, hbz⟩
   go_wp2
   exact ⟨rfl, hbz, rfl⟩
  intro w3' hbz u0 hu0 u1 hu1 u2 hu2 u3 hu3 u4 hu4 u5 hu5 u6 hu6 u7 hu7 u8 hu8 u9 hu9 u10 hu10 u11 hu11 u12 hu12 u13 hu13
  obtain rfl : u13 = _ := hu13
  clear hu0 hu1 hu2 hu3 hu4 hu5 hu6 hu7 hu8 hu9 hu10 hu11 hu12
  replace HR_v := Lib.hid (HR_v.out.ext hbz)
  replace HW := Lib.hid (ext_trans HW.out hbz)
  clear c_v_0 c_v_1 c_v_2 c_v_3 c_v_4 c_v_5 c_v_6 c_v_7
  clear hbz
  show wpList _ _ _ _ _ _
  simp only [Act.put, zz5, zz6, zz7]
  obtain ⟨sz, hsz⟩ : ∃ z, t0 ++ (⟨#[32, 111, 117, 116, 99, 111, 109, 101, 32]⟩ : ByteArray) ++ ke ++ (⟨#[32]⟩ : ByteArray) ++ na ++ (⟨#[32]⟩ : ByteArray) ++ sx = z := ⟨_, rfl⟩
  rw [hsz]
  have HS := Lib.hid hsz
  clear hsz
  go_wp2
  exact bodyPost_ret (v := .string sz) (by simp [results, Tryd.results13, go_sem]) rfl ⟨by rw [← HS.out, HN.out], HW.out⟩
set_option maxRecDepth 100000 in
set_option maxHeartbeats 16000000 in
theorem refShowE_at (e : Ev) (he : e.ok) (w : World) (ht : Tb w) : Calls Tryd.prog 7 #[.agg (evC e)] w fun r w' => r = .returned (.tuple #[.string (shE e), .int .i64 (checkE e)]) ∧ Below w.heap.size w w' := by
 have HT0 := Lib.hid ht
 have HE := Lib.hid he
 obtain ⟨f, hf⟩ : ∃ z, checkE e = z := ⟨_, rfl⟩
 have HF := Lib.hid hf
 clear ht he hf
 go_enter Tryd.func7, Tryd.ntmps7
 go_upto_region 1 with (fail)
 refine wp_vr1 fun w1' hbz hR0 => ?_
 have HR_v : Hid (RH w1' w.heap.size #[.string e.shard, .int .i64 (e.number), .int .i64 (e.kind), .int .i64 (e.time), .string e.key, .string e.name, .int .i64 (e.arm), .int .i64 (e.n)] 23) := Lib.hid hR0
 have HW := Lib.hid hbz
 clear hbz hR0
 have c_v_0 : w1'.cell? ⟨w.heap.size, 0, none⟩ = some (.string e.shard) := (HR_v.out.cell 0).trans rfl
 have c_v_1 : w1'.cell? ⟨w.heap.size, 1, none⟩ = some (.int .i64 (e.number)) := (HR_v.out.cell 1).trans rfl
 have c_v_2 : w1'.cell? ⟨w.heap.size, 2, none⟩ = some (.int .i64 (e.kind)) := (HR_v.out.cell 2).trans rfl
 have c_v_3 : w1'.cell? ⟨w.heap.size, 3, none⟩ = some (.int .i64 (e.time)) := (HR_v.out.cell 3).trans rfl
 have c_v_4 : w1'.cell? ⟨w.heap.size, 4, none⟩ = some (.string e.key) := (HR_v.out.cell 4).trans rfl
 have c_v_5 : w1'.cell? ⟨w.heap.size, 5, none⟩ = some (.string e.name) := (HR_v.out.cell 5).trans rfl
 have c_v_6 : w1'.cell? ⟨w.heap.size, 6, none⟩ = some (.int .i64 (e.arm)) := (HR_v.out.cell 6).trans rfl
 have c_v_7 : w1'.cell? ⟨w.heap.size, 7, none⟩ = some (.int .i64 (e.n)) := (HR_v.out.cell 7).trans rfl
 go_wp2_with fail
 refine (ref7_Check e HE.out w1').mono ?_
 rintro e w2' ⟨rfl, hbz⟩
 rw [HF.out]
 replace HR_v := Lib.hid (HR_v.out.ext hbz)
 replace HW := Lib.hid (ext_trans HW.out hbz)
 clear c_v_0 c_v_1 c_v_2 c_v_3 c_v_4 c_v_5 c_v_6 c_v_7
 clear hbz
 by_cases h0 : f = 0
 ·subst h0
  have HN : Hid (stB (showE e) = shE e) := Lib.hid (by unfold shE; rw [if_pos HF.out])
  have HSH : Hid (∀ W9, Tb W9 → Calls Tryd.prog 13 #[.agg (evC e)] W9 fun r w' => r = .returned (.string (stB (showE e))) ∧ Below W9.heap.size W9 w') := Lib.hid (fun W9 t9 => refshowE_at e (rightE_of HF.out) W9 t9)
  obtain ⟨st, hst⟩ : ∃ z, stB (showE e) = z := ⟨_, rfl⟩
  rw [hst] at HN HSH
  clear hst
  have c_v_0 : w2'.cell? ⟨w.heap.size, 0, none⟩ = some (.string e.shard) := (HR_v.out.cell 0).trans rfl
  have c_v_1 : w2'.cell? ⟨w.heap.size, 1, none⟩ = some (.int .i64 (e.number)) := (HR_v.out.cell 1).trans rfl
  have c_v_2 : w2'.cell? ⟨w.heap.size, 2, none⟩ = some (.int .i64 (e.kind)) := (HR_v.out.cell 2).trans rfl
  have c_v_3 : w2'.cell? ⟨w.heap.size, 3, none⟩ = some (.int .i64 (e.time)) := (HR_v.out.cell 3).trans rfl
  have c_v_4 : w2'.cell? ⟨w.heap.size, 4, none⟩ = some (.string e.key) := (HR_v.out.cell 4).trans rfl
  have c_v_5 : w2'.cell? ⟨w.heap.size, 5, none⟩ = some (.string e.name) := (HR_v.out.cell 5).trans rfl
  have c_v_6 : w2'.cell? ⟨w.heap.size, 6, none⟩ = some (.int .i64 (e.arm)) := (HR_v.out.cell 6).trans rfl
  have c_v_7 : w2'.cell? ⟨w.heap.size, 7, none⟩ = some (.int .i64 (e.n)) := (HR_v.out.cell 7).trans rfl
  go_wp2_with fail
  refine (HSH.out w2' (HT0.out.ext HW.out)).mono ?_
  rintro e w3' ⟨rfl, hbz⟩
  replace HR_v := Lib.hid (HR_v.out.ext hbz)
  replace HW := Lib.hid (ext_trans HW.out hbz)
  clear c_v_0 c_v_1 c_v_2 c_v_3 c_v_4 c_v_5 c_v_6 c_v_7
  clear hbz
  go_wp2
  exact bodyPost_ret (v := .tuple #[.string st, .int .i64 0]) (by simp [results, Tryd.results7, go_sem]) rfl ⟨by rw [← HN.out, HF.out], HW.out⟩
 ·have HN : Hid (⟨#[]⟩ = shE e) := Lib.hid (by unfold shE; rw [if_neg (by rw [HF.out]; exact h0)])
  have hne : (f != 0) = true := by simpa using h0
  clear h0
  go_wp2
  exact bodyPost_ret (v := .tuple #[.string ⟨#[]⟩, .int .i64 f]) (by simp [results, Tryd.results7, go_sem]) rfl ⟨by rw [← HN.out, HF.out], HW.out⟩
end Tx
end Go.Proofs.YtigjkcbpbjefaaaDoor
namespace Go.Proofs.YtigjkcbpbjefaaaDoor
open Go.RowKit
namespace Tx
open _root_.Go.Proofs.YtigjkcbpbjefaaaDoor.Nm
open _root_.Go.Proofs.YtigjkcbpbjefaaaDoor.Nt (RH RH.cell RH.box RH.lt RH.new RH.ext RH.fre RH.set RH.other)
set_option maxRecDepth 100000 in
set_option maxHeartbeats 16000000 in
theorem lawEem_at (e : Ev) (he : e.ok) (s : ByteArray) (hs : s.size ≤ 1048576) (w : World) (hr : Er w) (ht : Tb w) (hm : Ml w) : Calls Tryd.prog 4 #[.agg (evC e), .string s] w fun e w' => e = .returned (.bool true) ∧ Below w.heap.size w w' := by
 have HS0 := Lib.hid hs
 have HML := Lib.hid hm
 have HT0 := Lib.hid ht
 have HE0 := Lib.hid hr
 have HOK := Lib.hid he
 clear hs hm ht hr he
 obtain ⟨fe, hf⟩ : ∃ z, checkE e = z := ⟨_, rfl⟩
 obtain ⟨tx, htx⟩ : ∃ z, shE e = z := ⟨_, rfl⟩
 have HF := Lib.hid (And.intro hf htx)
 clear hf htx
 go_enter Tryd.func4, Tryd.ntmps4
 go_upto_region 1 with (fail)
 refine wp_vr1 fun w1' hbz hR0 => ?_
 have HR_v : Hid (RH w1' w.heap.size #[.string e.shard, .int .i64 (e.number), .int .i64 (e.kind), .int .i64 (e.time), .string e.key, .string e.name, .int .i64 (e.arm), .int .i64 (e.n)] 23) := Lib.hid hR0
 have HW := Lib.hid hbz
 clear hbz hR0
 have c_v_0 : w1'.cell? ⟨w.heap.size, 0, none⟩ = some (.string e.shard) := (HR_v.out.cell 0).trans rfl
 have c_v_1 : w1'.cell? ⟨w.heap.size, 1, none⟩ = some (.int .i64 (e.number)) := (HR_v.out.cell 1).trans rfl
 have c_v_2 : w1'.cell? ⟨w.heap.size, 2, none⟩ = some (.int .i64 (e.kind)) := (HR_v.out.cell 2).trans rfl
 have c_v_3 : w1'.cell? ⟨w.heap.size, 3, none⟩ = some (.int .i64 (e.time)) := (HR_v.out.cell 3).trans rfl
 have c_v_4 : w1'.cell? ⟨w.heap.size, 4, none⟩ = some (.string e.key) := (HR_v.out.cell 4).trans rfl
 have c_v_5 : w1'.cell? ⟨w.heap.size, 5, none⟩ = some (.string e.name) := (HR_v.out.cell 5).trans rfl
 have c_v_6 : w1'.cell? ⟨w.heap.size, 6, none⟩ = some (.int .i64 (e.arm)) := (HR_v.out.cell 6).trans rfl
 have c_v_7 : w1'.cell? ⟨w.heap.size, 7, none⟩ = some (.int .i64 (e.n)) := (HR_v.out.cell 7).trans rfl
 go_wp2_with fail
 refine (evShow_at e HOK.out w1' (HT0.out.ext HW.out)).mono ?_
 rintro e w2' ⟨rfl, hbz⟩
 rw [HF.out.1, HF.out.2]
 replace HR_v := Lib.hid (HR_v.out.ext hbz)
 replace HW := Lib.hid (ext_trans HW.out hbz)
 clear c_v_0 c_v_1 c_v_2 c_v_3 c_v_4 c_v_5 c_v_6 c_v_7
 clear hbz
 have c_v_0 : w2'.cell? ⟨w.heap.size, 0, none⟩ = some (.string e.shard) := (HR_v.out.cell 0).trans rfl
 have c_v_1 : w2'.cell? ⟨w.heap.size, 1, none⟩ = some (.int .i64 (e.number)) := (HR_v.out.cell 1).trans rfl
 have c_v_2 : w2'.cell? ⟨w.heap.size, 2, none⟩ = some (.int .i64 (e.kind)) := (HR_v.out.cell 2).trans rfl
 have c_v_3 : w2'.cell? ⟨w.heap.size, 3, none⟩ = some (.int .i64 (e.time)) := (HR_v.out.cell 3).trans rfl
 have c_v_4 : w2'.cell? ⟨w.heap.size, 4, none⟩ = some (.string e.key) := (HR_v.out.cell 4).trans rfl
 have c_v_5 : w2'.cell? ⟨w.heap.size, 5, none⟩ = some (.string e.name) := (HR_v.out.cell 5).trans rfl
 have c_v_6 : w2'.cell? ⟨w.heap.size, 6, none⟩ = some (.int .i64 (e.arm)) := (HR_v.out.cell 6).trans rfl
 have c_v_7 : w2'.cell? ⟨w.heap.size, 7, none⟩ = some (.int .i64 (e.n)) := (HR_v.out.cell 7).trans rfl
 go_wp2_with fail
 refine (refShowE_at e HOK.out w2' (HT0.out.ext HW.out)).mono ?_
 rintro e w3' ⟨rfl, hbz⟩
 rw [HF.out.1, HF.out.2]
 replace HR_v := Lib.hid (HR_v.out.ext hbz)
 replace HW := Lib.hid (ext_trans HW.out hbz)
 clear c_v_0 c_v_1 c_v_2 c_v_3 c_v_4 c_v_5 c_v_6 c_v_7
 clear hbz
 obtain ⟨x, hx⟩ : ∃ z, (rdE s.data.toList).1 = z := ⟨_, rfl⟩
 obtain ⟨f2, hf2⟩ : ∃ z, (rdE s.data.toList).2 = z := ⟨_, rfl⟩
 have HX := Lib.hid (And.intro hx hf2)
 clear hx hf2
 go_wp2_with fail
 refine (evRead_at s HS0.out w3' (HE0.out.ext HW.out) (HT0.out.ext HW.out) (HML.out.ext HW.out)).mono ?_
 rintro e w4' ⟨rfl, hbz⟩
 rw [HX.out.1, HX.out.2]
 replace HR_v := Lib.hid (HR_v.out.ext hbz)
 replace HW := Lib.hid (ext_trans HW.out hbz)
 clear hbz
 go_upto_region 4 with (fail)
 refine wp_vr1 fun w5' hbz hR0 => ?_
 have lt_v_p : w.heap.size < w4'.heap.size := HR_v.out.lt
 have le_p : w.heap.size ≤ w4'.heap.size := HW.out.size
 replace HR_v := Lib.hid (HR_v.out.ext hbz)
 replace HW := Lib.hid (ext_trans HW.out hbz)
 clear hbz
 have HR_p : Hid (RH w5' w4'.heap.size #[.string x.shard, .int .i64 (x.number), .int .i64 (x.kind), .int .i64 (x.time), .string x.key, .string x.name, .int .i64 (x.arm), .int .i64 (x.n)] 23) := Lib.hid hR0
 clear hR0
 generalize w4'.heap.size = b_p at *
 go_wp2_with fail
 refine (refReadE_at s HS0.out w5' (HML.out.ext HW.out)).mono ?_
 rintro e w6' ⟨rfl, hbz⟩
 rw [HX.out.1, HX.out.2]
 replace HR_v := Lib.hid (HR_v.out.ext hbz)
 replace HR_p := Lib.hid (HR_p.out.ext hbz)
 replace HW := Lib.hid (ext_trans HW.out hbz)
 clear hbz
 go_upto_region 5 with (fail)
 refine wp_vr1 fun w7' hbz hR0 => ?_
 have lt_v_r : w.heap.size < w6'.heap.size := HR_v.out.lt
 have lt_p_r : b_p < w6'.heap.size := HR_p.out.lt
 have le_r : w.heap.size ≤ w6'.heap.size := HW.out.size
 replace HR_v := Lib.hid (HR_v.out.ext hbz)
 replace HR_p := Lib.hid (HR_p.out.ext hbz)
 replace HW := Lib.hid (ext_trans HW.out hbz)
 clear hbz
 have HR_r : Hid (RH w7' w6'.heap.size #[.string x.shard, .int .i64 (x.number), .int .i64 (x.kind), .int .i64 (x.time), .string x.key, .string x.name, .int .i64 (x.arm), .int .i64 (x.n)] 23) := Lib.hid hR0
 clear hR0
 generalize w6'.heap.size = b_r at *
 have c_v_0 : w7'.cell? ⟨w.heap.size, 0, none⟩ = some (.string e.shard) := (HR_v.out.cell 0).trans rfl
 have c_v_1 : w7'.cell? ⟨w.heap.size, 1, none⟩ = some (.int .i64 (e.number)) := (HR_v.out.cell 1).trans rfl
 have c_v_2 : w7'.cell? ⟨w.heap.size, 2, none⟩ = some (.int .i64 (e.kind)) := (HR_v.out.cell 2).trans rfl
 have c_v_3 : w7'.cell? ⟨w.heap.size, 3, none⟩ = some (.int .i64 (e.time)) := (HR_v.out.cell 3).trans rfl
 have c_v_4 : w7'.cell? ⟨w.heap.size, 4, none⟩ = some (.string e.key) := (HR_v.out.cell 4).trans rfl
 have c_v_5 : w7'.cell? ⟨w.heap.size, 5, none⟩ = some (.string e.name) := (HR_v.out.cell 5).trans rfl
 have c_v_6 : w7'.cell? ⟨w.heap.size, 6, none⟩ = some (.int .i64 (e.arm)) := (HR_v.out.cell 6).trans rfl
 have c_v_7 : w7'.cell? ⟨w.heap.size, 7, none⟩ = some (.int .i64 (e.n)) := (HR_v.out.cell 7).trans rfl
 have c_p_0 : w7'.cell? ⟨b_p, 0, none⟩ = some (.string x.shard) := (HR_p.out.cell 0).trans rfl
 have c_p_1 : w7'.cell? ⟨b_p, 1, none⟩ = some (.int .i64 (x.number)) := (HR_p.out.cell 1).trans rfl
 have c_p_2 : w7'.cell? ⟨b_p, 2, none⟩ = some (.int .i64 (x.kind)) := (HR_p.out.cell 2).trans rfl
 have c_p_3 : w7'.cell? ⟨b_p, 3, none⟩ = some (.int .i64 (x.time)) := (HR_p.out.cell 3).trans rfl
 have c_p_4 : w7'.cell? ⟨b_p, 4, none⟩ = some (.string x.key) := (HR_p.out.cell 4).trans rfl
 have c_p_5 : w7'.cell? ⟨b_p, 5, none⟩ = some (.string x.name) := (HR_p.out.cell 5).trans rfl
 have c_p_6 : w7'.cell? ⟨b_p, 6, none⟩ = some (.int .i64 (x.arm)) := (HR_p.out.cell 6).trans rfl
 have c_p_7 : w7'.cell? ⟨b_p, 7, none⟩ = some (.int .i64 (x.n)) := (HR_p.out.cell 7).trans rfl
 have c_r_0 : w7'.cell? ⟨b_r, 0, none⟩ = some (.string x.shard) := (HR_r.out.cell 0).trans rfl
 have c_r_1 : w7'.cell? ⟨b_r, 1, none⟩ = some (.int .i64 (x.number)) := (HR_r.out.cell 1).trans rfl
 have c_r_2 : w7'.cell? ⟨b_r, 2, none⟩ = some (.int .i64 (x.kind)) := (HR_r.out.cell 2).trans rfl
 have c_r_3 : w7'.cell? ⟨b_r, 3, none⟩ = some (.int .i64 (x.time)) := (HR_r.out.cell 3).trans rfl
 have c_r_4 : w7'.cell? ⟨b_r, 4, none⟩ = some (.string x.key) := (HR_r.out.cell 4).trans rfl
 have c_r_5 : w7'.cell? ⟨b_r, 5, none⟩ = some (.string x.name) := (HR_r.out.cell 5).trans rfl
 have c_r_6 : w7'.cell? ⟨b_r, 6, none⟩ = some (.int .i64 (x.arm)) := (HR_r.out.cell 6).trans rfl
 have c_r_7 : w7'.cell? ⟨b_r, 7, none⟩ = some (.int .i64 (x.n)) := (HR_r.out.cell 7).trans rfl
 have HC1 := Lib.hid (fun W9 => (by have h9 := event_Check e HOK.out W9; rw [HF.out.1] at h9; exact h9 : Calls Tryd.prog 9 #[.agg (evC e)] W9 fun r w' => r = .returned (.int .i64 fe) ∧ Below W9.heap.size W9 w'))
 have HC2 := Lib.hid (fun W9 => (by have h9 := ref7_Check e HOK.out W9; rw [HF.out.1] at h9; exact h9 : Calls Tryd.prog 10 #[.agg (evC e)] W9 fun r w' => r = .returned (.int .i64 fe) ∧ Below W9.heap.size W9 w'))
 refine Grow.wp_region_grow 25 [TP.eq (.agg #[.string e.shard, .int .i64 (e.number), .int .i64 (e.kind), .int .i64 (e.time), .string e.key, .string e.name, .int .i64 (e.arm), .int .i64 (e.n)]), TP.eq (.int .i64 (fe)), TP.eq (.agg #[.string e.shard, .int .i64 (e.number), .int .i64 (e.kind), .int .i64 (e.time), .string e.key, .string e.name, .int .i64 (e.arm), .int .i64 (e.n)]), TP.eq (.int .i64 (fe)), TP.eq (.bool true), TP.eq (.bool true), TP.eq (.string tx), TP.eq (.string tx), TP.eq (.bool true), TP.eq (.bool true), TP.eq (.bool true), TP.eq (.int .i64 (fe)), TP.eq (.int .i64 (fe)), TP.eq (.bool true), TP.eq (.bool true), TP.eq (.bool true), TP.eq (.agg #[.string x.shard, .int .i64 (x.number), .int .i64 (x.kind), .int .i64 (x.time), .string x.key, .string x.name, .int .i64 (x.arm), .int .i64 (x.n)]), TP.eq (.agg #[.string x.shard, .int .i64 (x.number), .int .i64 (x.kind), .int .i64 (x.time), .string x.key, .string x.name, .int .i64 (x.arm), .int .i64 (x.n)]), TP.eq (.bool true), TP.eq (.bool true), TP.eq (.bool true), TP.eq (.int .i64 (f2)), TP.eq (.int .i64 (f2)), TP.eq (.bool true), TP.eq (.bool true)] [[], [0], [], [2], [1, 3], [4], [5], [5], [5, 6, 7], [5, 8], [9], [10], [10], [10, 11, 12], [10, 13], [14], [15], [15], [15, 16, 17], [15, 18], [19], [20], [20], [20, 21, 22], [20, 23]] (by kernel_rfl) (by kernel_rfl) ⟨?o0g, ?o1g, ?o2g, ?o3g, ?o4g, ?o5g, ?o6g, ?o7g, ?o8g, ?o9g, ?o10g, ?o11g, ?o12g, ?o13g, ?o14g, ?o15g, ?o16g, ?o17g, ?o18g, ?o19g, ?o20g, ?o21g, ?o22g, ?o23g, ?o24g, trivial⟩ ?_
 case o0g | o2g =>
  intro w' hb
  have c_v_0' := zzc hb c_v_0
  have c_v_1' := zzc hb c_v_1
  have c_v_2' := zzc hb c_v_2
  have c_v_3' := zzc hb c_v_3
  have c_v_4' := zzc hb c_v_4
  have c_v_5' := zzc hb c_v_5
  have c_v_6' := zzc hb c_v_6
  have c_v_7' := zzc hb c_v_7
  show wpList _ _ _ _ _ _
  go_wp2
  exact ⟨rfl, Below.refl _ _, rfl⟩
 case o1g =>
  intro w' hb v1 hv1
  obtain rfl : v1 = _ := hv1
  show wpList _ _ _ _ _ _
  simp only [Grow.dstOf, zz1, zz3, zz4, Act.put, zz5, zz6, zz7]
  go_wp2_with fail
  refine (HC1.out w').mono ?_
  rintro e wz ⟨rfl, hbz⟩
  go_wp2
  exact ⟨rfl, hbz, rfl⟩
 case o3g =>
  intro w' hb v1 hv1
  obtain rfl : v1 = _ := hv1
  show wpList _ _ _ _ _ _
  simp only [Grow.dstOf, zz1, zz2, zz3, zz4, Act.put, zz5, zz6, zz7]
  go_wp2_with fail
  refine (HC2.out w').mono ?_
  rintro e wz ⟨rfl, hbz⟩
  go_wp2
  exact ⟨rfl, hbz, rfl⟩
 case o4g | o9g | o14g | o19g | o24g =>
  intro w' hb v1 hv1 v2 hv2
  obtain rfl : v1 = _ := hv1
  obtain rfl : v2 = _ := hv2
  show wpList _ _ _ _ _ _
  simp only [Grow.dstOf, zz1, zz2, zz3, zz4, Act.put, zz5, zz6, zz7]
  go_wp2
  exact ⟨rfl, Below.refl _ _, rfl⟩
 case o5g | o6g | o7g | o10g | o11g | o12g | o15g | o20g | o21g | o22g =>
  intro w' hb v1 hv1
  obtain rfl : v1 = _ := hv1
  show wpList _ _ _ _ _ _
  simp only [Grow.dstOf, zz1, zz2, zz3, zz4, Act.put, zz5, zz6, zz7]
  go_wp2
  exact ⟨rfl, Below.refl _ _, rfl⟩
 case o8g | o13g | o23g =>
  intro w' hb v1 hv1 v2 hv2 v3 hv3
  obtain rfl : v1 = _ := hv1
  obtain rfl : v2 = _ := hv2
  obtain rfl : v3 = _ := hv3
  show wpList _ _ _ _ _ _
  simp only [Grow.dstOf, zz1, zz2, zz3, zz4, Act.put, zz5, zz6, zz7]
  go_wp2
  exact ⟨rfl, Below.refl _ _, rfl⟩
 case o16g | o17g =>
  intro w' hb v1 hv1
  obtain rfl : v1 = _ := hv1
  have c_p_0' := zzc hb c_p_0
  have c_p_1' := zzc hb c_p_1
  have c_p_2' := zzc hb c_p_2
  have c_p_3' := zzc hb c_p_3
  have c_p_4' := zzc hb c_p_4
  have c_p_5' := zzc hb c_p_5
  have c_p_6' := zzc hb c_p_6
  have c_p_7' := zzc hb c_p_7
  have c_r_0' := zzc hb c_r_0
  have c_r_1' := zzc hb c_r_1
  have c_r_2' := zzc hb c_r_2
  have c_r_3' := zzc hb c_r_3
  have c_r_4' := zzc hb c_r_4
  have c_r_5' := zzc hb c_r_5
  have c_r_6' := zzc hb c_r_6
  have c_r_7' := zzc hb c_r_7
  show wpList _ _ _ _ _ _
  simp only [Grow.dstOf, zz1, zz2, zz3, zz4, Act.put, zz5, zz6, zz7]
  go_wp2
  exact ⟨rfl, Below.refl _ _, rfl⟩
 case o18g =>
  intro w' hb v1 hv1 v2 hv2 v3 hv3
  obtain rfl : v1 = _ := hv1
  obtain rfl : v2 = _ := hv2
  obtain rfl : v3 = _ := hv3
  have hgd := fun op a b w => guard_ev op a b x x w
  have heq := eql_ev x x
  rw [decide_eq_true rfl] at heq
  dsimp only [evC] at hgd heq
  show wpList _ _ _ _ _ _
  simp only [Grow.dstOf, zz1, zz2, zz3, zz4, Act.put, zz5, zz6, zz7]
  go_wp2
  exact ⟨rfl, Below.refl _ _, rfl⟩
 intro w8' hbz u0 hu0 u1 hu1 u2 hu2 u3 hu3 u4 hu4 u5 hu5 u6 hu6 u7 hu7 u8 hu8 u9 hu9 u10 hu10 u11 hu11 u12 hu12 u13 hu13 u14 hu14 u15 hu15 u16 hu16 u17 hu17 u18 hu18 u19 hu19 u20 hu20 u21 hu21 u22 hu22 u23 hu23 u24 hu24
 obtain rfl : u24 = _ := hu24
 clear hu0 hu1 hu2 hu3 hu4 hu5 hu6 hu7 hu8 hu9 hu10 hu11 hu12 hu13 hu14 hu15 hu16 hu17 hu18 hu19 hu20 hu21 hu22 hu23
 replace HR_v := Lib.hid (HR_v.out.ext hbz)
 replace HR_p := Lib.hid (HR_p.out.ext hbz)
 replace HR_r := Lib.hid (HR_r.out.ext hbz)
 replace HW := Lib.hid (ext_trans HW.out hbz)
 clear c_v_0 c_v_1 c_v_2 c_v_3 c_v_4 c_v_5 c_v_6 c_v_7 c_p_0 c_p_1 c_p_2 c_p_3 c_p_4 c_p_5 c_p_6 c_p_7 c_r_0 c_r_1 c_r_2 c_r_3 c_r_4 c_r_5 c_r_6 c_r_7
 clear hbz
 show wpList _ _ _ _ _ _
 simp only [Act.put, zz5, zz6, zz7]
 go_wp2
 go_ret
 exact ⟨rfl, HW.out⟩
end Tx
end Go.Proofs.YtigjkcbpbjefaaaDoor
