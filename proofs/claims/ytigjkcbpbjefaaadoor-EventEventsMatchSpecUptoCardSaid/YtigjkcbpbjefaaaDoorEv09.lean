/- show, Show of package event. Printed by gen_evw.py. -/
import Derived.Test.YtigjkcbpbjefaaaDoorEv04
namespace Go.Proofs.YtigjkcbpbjefaaaDoor
open Go.RowKit
namespace Tx
open _root_.Go.Proofs.YtigjkcbpbjefaaaDoor.Nm
open _root_.Go.Proofs.YtigjkcbpbjefaaaDoor.Nt (RH RH.cell RH.box RH.lt RH.new RH.ext RH.fre RH.set RH.other)
theorem stB_app (l r : List UInt8) : stB l ++ stB r = stB (l ++ r) := by
 apply ByteArray.ext
 simp [stB]
theorem stL (s : ByteArray) : s = stB s.data.toList := (stB_self s).symm
def shE (e : Ev) : ByteArray := if checkE e = 0 then stB (showE e) else ⟨#[]⟩
theorem show_mark (sh : ByteArray) (nu ti : Int) (ke na : ByteArray) (ar nn : Int) : sh ++ ⟨#[32]⟩ ++ stB (itoaS nu) ++ ⟨#[32]⟩ ++ stB (itoaS ti) ++ ⟨#[32, 109, 97, 114, 107]⟩ = stB (showE ⟨sh, nu, 3, ti, ke, na, ar, nn⟩) := by
 rw [stL sh, show (⟨#[32]⟩ : ByteArray) = stB [32] from rfl, show (⟨#[32, 109, 97, 114, 107]⟩ : ByteArray) = stB (32 :: markL) from rfl]
 simp only [stB_app]
 congr 1
 simp [showE, wordsE, joinL, stB]
theorem show_exp (sh : ByteArray) (nu ti : Int) (ke na : ByteArray) (ar nn : Int) : sh ++ ⟨#[32]⟩ ++ stB (itoaS nu) ++ ⟨#[32]⟩ ++ stB (itoaS ti) ++ ⟨#[32, 101, 120, 112, 111, 115, 117, 114, 101, 32]⟩ ++ ke ++ ⟨#[32]⟩ ++ na ++ ⟨#[32]⟩ ++ stB (itoaS ar) = stB (showE ⟨sh, nu, 1, ti, ke, na, ar, nn⟩) := by
 rw [stL sh, stL ke, stL na, show (⟨#[32]⟩ : ByteArray) = stB [32] from rfl, show (⟨#[32, 101, 120, 112, 111, 115, 117, 114, 101, 32]⟩ : ByteArray) = stB (32 :: (expL ++ [32])) from rfl]
 simp only [stB_app]
 congr 1
 simp [showE, wordsE, joinL, stB]
theorem show_out (sh : ByteArray) (nu ti : Int) (ke na : ByteArray) (ar nn : Int) : sh ++ ⟨#[32]⟩ ++ stB (itoaS nu) ++ ⟨#[32]⟩ ++ stB (itoaS ti) ++ ⟨#[32, 111, 117, 116, 99, 111, 109, 101, 32]⟩ ++ ke ++ ⟨#[32]⟩ ++ na ++ ⟨#[32]⟩ ++ stB (itoaS nn) = stB (showE ⟨sh, nu, 2, ti, ke, na, ar, nn⟩) := by
 rw [stL sh, stL ke, stL na, show (⟨#[32]⟩ : ByteArray) = stB [32] from rfl, show (⟨#[32, 111, 117, 116, 99, 111, 109, 101, 32]⟩ : ByteArray) = stB (32 :: (outL ++ [32])) from rfl]
 simp only [stB_app]
 congr 1
 simp [showE, wordsE, joinL, stB]
set_option maxRecDepth 100000 in
set_option maxHeartbeats 16000000 in
theorem evshow_at (e : Ev) (h : RightE e) (w : World) (ht : Tb w) : Calls Tryd.prog 11 #[.agg (evC e)] w fun r w' => r = .returned (.string (stB (showE e))) ∧ Below w.heap.size w w' := by
 have HT0 := Lib.hid ht
 obtain ⟨sh, nu, ki, ti, ke, na, ar, nn⟩ := e
 obtain ⟨g1, g2, g3, g4⟩ := h
 simp only at g1 g2 g3 g4
 have hz1 : sh.size ≤ 40 := by
  have h9 : sh.data.toList.length = sh.size := Array.length_toList
  have := (name_words g1).2.2; omega
 have HK := Lib.hid g4
 obtain ⟨sn, hqsn⟩ : ∃ z, stB (itoaS nu) = z := ⟨_, rfl⟩
 have hzsn : sn.size ≤ 14 := by rw [← hqsn, stB_size]; exact itoaS_length (by omega)
 have HIsn := Lib.hid (fun W9 t9 => (by have h9 := itoaI_at (nu) (by omega) (by omega) W9 t9; rw [hqsn] at h9; exact h9 : Calls Tryd.prog 21 #[.int .i64 (nu)] W9 fun e w' => e = .returned (.string sn) ∧ Below W9.heap.size W9 w'))
 have HQsn := Lib.hid hqsn
 clear hqsn
 obtain ⟨st, hqst⟩ : ∃ z, stB (itoaS ti) = z := ⟨_, rfl⟩
 have hzst : st.size ≤ 14 := by rw [← hqst, stB_size]; exact itoaS_length (by omega)
 have HIst := Lib.hid (fun W9 t9 => (by have h9 := itoaI_at (ti) (by omega) (by omega) W9 t9; rw [hqst] at h9; exact h9 : Calls Tryd.prog 21 #[.int .i64 (ti)] W9 fun e w' => e = .returned (.string st) ∧ Below W9.heap.size W9 w'))
 have HQst := Lib.hid hqst
 clear hqst
 clear ht g1 g2 g3 g4
 go_enter Tryd.func11, Tryd.ntmps11
 go_upto_region 1 with (fail)
 refine wp_vr1 fun w1' hbz hR0 => ?_
 have HR_v : Hid (RH w1' w.heap.size #[.string sh, .int .i64 (nu), .int .i64 (ki), .int .i64 (ti), .string ke, .string na, .int .i64 (ar), .int .i64 (nn)] 23) := Lib.hid hR0
 have HW := Lib.hid hbz
 clear hbz hR0
 have c_v_0 : w1'.cell? ⟨w.heap.size, 0, none⟩ = some (.string sh) := (HR_v.out.cell 0).trans rfl
 have c_v_1 : w1'.cell? ⟨w.heap.size, 1, none⟩ = some (.int .i64 (nu)) := (HR_v.out.cell 1).trans rfl
 have c_v_2 : w1'.cell? ⟨w.heap.size, 2, none⟩ = some (.int .i64 (ki)) := (HR_v.out.cell 2).trans rfl
 have c_v_3 : w1'.cell? ⟨w.heap.size, 3, none⟩ = some (.int .i64 (ti)) := (HR_v.out.cell 3).trans rfl
 have c_v_4 : w1'.cell? ⟨w.heap.size, 4, none⟩ = some (.string ke) := (HR_v.out.cell 4).trans rfl
 have c_v_5 : w1'.cell? ⟨w.heap.size, 5, none⟩ = some (.string na) := (HR_v.out.cell 5).trans rfl
 have c_v_6 : w1'.cell? ⟨w.heap.size, 6, none⟩ = some (.int .i64 (ar)) := (HR_v.out.cell 6).trans rfl
 have c_v_7 : w1'.cell? ⟨w.heap.size, 7, none⟩ = some (.int .i64 (nn)) := (HR_v.out.cell 7).trans rfl
 refine Grow.wp_region_grow 12 [TP.eq (.pointer (some ⟨w.heap.size, 0, none⟩)), TP.eq (.string sh), TP.eq (.string (sh ++ (⟨#[32]⟩ : ByteArray))), TP.eq (.pointer (some ⟨w.heap.size, 1, none⟩)), TP.eq (.int .i64 (nu)), TP.eq (.string sn), TP.eq (.string (sh ++ (⟨#[32]⟩ : ByteArray) ++ sn)), TP.eq (.string (sh ++ (⟨#[32]⟩ : ByteArray) ++ sn ++ (⟨#[32]⟩ : ByteArray))), TP.eq (.pointer (some ⟨w.heap.size, 3, none⟩)), TP.eq (.int .i64 (ti)), TP.eq (.string st), TP.eq (.string (sh ++ (⟨#[32]⟩ : ByteArray) ++ sn ++ (⟨#[32]⟩ : ByteArray) ++ st))] [[], [0], [1], [], [3], [4], [2, 5], [6], [], [8], [9], [7, 10]] (by kernel_rfl) (by kernel_rfl) ⟨?o0g, ?o1g, ?o2g, ?o3g, ?o4g, ?o5g, ?o6g, ?o7g, ?o8g, ?o9g, ?o10g, ?o11g, trivial⟩ ?_
 case o0g | o3g | o8g =>
  intro w' hb
  show wpList _ _ _ _ _ _
  go_wp2
  exact ⟨rfl, Below.refl _ _, rfl⟩
 case o1g =>
  intro w' hb v1 hv1
  obtain rfl : v1 = _ := hv1
  have c_v_0' := zzc hb c_v_0
  show wpList _ _ _ _ _ _
  simp only [Grow.dstOf, zz1, zz3, zz4, Act.put, zz5, zz6, zz7]
  go_wp2
  exact ⟨rfl, Below.refl _ _, rfl⟩
 case o2g | o7g =>
  intro w' hb v1 hv1
  obtain rfl : v1 = _ := hv1
  show wpList _ _ _ _ _ _
  simp only [Grow.dstOf, zz1, zz2, zz3, zz4, Act.put, zz5, zz6, zz7]
  go_wp2
  exact ⟨rfl, Below.refl _ _, rfl⟩
 case o4g | o9g =>
  intro w' hb v1 hv1
  obtain rfl : v1 = _ := hv1
  have c_v_1' := zzc hb c_v_1
  have c_v_3' := zzc hb c_v_3
  show wpList _ _ _ _ _ _
  simp only [Grow.dstOf, zz1, zz2, zz3, zz4, Act.put, zz5, zz6, zz7]
  go_wp2
  exact ⟨rfl, Below.refl _ _, rfl⟩
 case o5g =>
  intro w' hb v1 hv1
  obtain rfl : v1 = _ := hv1
  show wpList _ _ _ _ _ _
  simp only [Grow.dstOf, zz1, zz2, zz3, zz4, Act.put, zz5, zz6, zz7]
  go_wp2_with fail
  refine (HIsn.out w' (HT0.out.ext (ext_trans HW.out hb))).mono ?_
  rintro e wz ⟨rfl, hbz⟩
  go_wp2
  exact ⟨rfl, hbz, rfl⟩
 case o6g | o11g =>
  intro w' hb v1 hv1 v2 hv2
  obtain rfl : v1 = _ := hv1
  obtain rfl : v2 = _ := hv2
  show wpList _ _ _ _ _ _
  simp only [Grow.dstOf, zz1, zz2, zz3, zz4, Act.put, zz5, zz6, zz7]
  go_wp2
  exact ⟨rfl, Below.refl _ _, rfl⟩
 case o10g =>
  intro w' hb v1 hv1
  obtain rfl : v1 = _ := hv1
  show wpList _ _ _ _ _ _
  simp only [Grow.dstOf, zz1, zz2, zz3, zz4, Act.put, zz5, zz6, zz7]
  go_wp2_with fail
  refine (HIst.out w' (HT0.out.ext (ext_trans HW.out hb))).mono ?_
  rintro e wz ⟨rfl, hbz⟩
  go_wp2
  exact ⟨rfl, hbz, rfl⟩
 intro w2' hbz u0 hu0 u1 hu1 u2 hu2 u3 hu3 u4 hu4 u5 hu5 u6 hu6 u7 hu7 u8 hu8 u9 hu9 u10 hu10 u11 hu11
 obtain rfl : u11 = _ := hu11
 clear hu0 hu1 hu2 hu3 hu4 hu5 hu6 hu7 hu8 hu9 hu10
 replace HR_v := Lib.hid (HR_v.out.ext hbz)
 replace HW := Lib.hid (ext_trans HW.out hbz)
 clear c_v_0 c_v_1 c_v_2 c_v_3 c_v_4 c_v_5 c_v_6 c_v_7
 clear hbz
 show wpList _ _ _ _ _ _
 simp only [Act.put, zz5, zz6, zz7]
 obtain ⟨t0, ht0⟩ : ∃ z, sh ++ (⟨#[32]⟩ : ByteArray) ++ sn ++ (⟨#[32]⟩ : ByteArray) ++ st = z := ⟨_, rfl⟩
 have hzt : t0.size ≤ 70 := by
  rw [← ht0]
  simp only [ByteArray.size_append]
  have h9 : (⟨#[32]⟩ : ByteArray).size = 1 := rfl
  omega
 rw [ht0]
 have HT := Lib.hid ht0
 clear ht0 HIsn HIst hzsn hzst hz1
 rcases HK.out with ⟨rfl, -⟩ | ⟨rfl, g5, g6, g7, g8⟩ | ⟨rfl, g5, g6, g7, g8⟩
 ·clear HK
  have c_v_0 : w2'.cell? ⟨w.heap.size, 0, none⟩ = some (.string sh) := (HR_v.out.cell 0).trans rfl
  have c_v_1 : w2'.cell? ⟨w.heap.size, 1, none⟩ = some (.int .i64 (nu)) := (HR_v.out.cell 1).trans rfl
  have c_v_2 : w2'.cell? ⟨w.heap.size, 2, none⟩ = some (.int .i64 (3)) := (HR_v.out.cell 2).trans rfl
  have c_v_3 : w2'.cell? ⟨w.heap.size, 3, none⟩ = some (.int .i64 (ti)) := (HR_v.out.cell 3).trans rfl
  have c_v_4 : w2'.cell? ⟨w.heap.size, 4, none⟩ = some (.string ke) := (HR_v.out.cell 4).trans rfl
  have c_v_5 : w2'.cell? ⟨w.heap.size, 5, none⟩ = some (.string na) := (HR_v.out.cell 5).trans rfl
  have c_v_6 : w2'.cell? ⟨w.heap.size, 6, none⟩ = some (.int .i64 (ar)) := (HR_v.out.cell 6).trans rfl
  have c_v_7 : w2'.cell? ⟨w.heap.size, 7, none⟩ = some (.int .i64 (nn)) := (HR_v.out.cell 7).trans rfl
  have HN := Lib.hid (by have h9 := show_mark sh nu ti ke na ar nn; rw [HQsn.out, HQst.out, HT.out] at h9; exact h9 : t0 ++ (⟨#[32, 109, 97, 114, 107]⟩ : ByteArray) = stB (showE ⟨sh, nu, 3, ti, ke, na, ar, nn⟩))
  go_wp2
  exact bodyPost_ret (v := .string (t0 ++ ⟨#[32, 109, 97, 114, 107]⟩)) (by simp [results, Tryd.results11, go_sem]) rfl ⟨by rw [HN.out], HW.out⟩
 ·have hz5 : ke.size ≤ 100 := by
   have h9 : ke.data.toList.length = ke.size := Array.length_toList
   have := (key_seen g5).2.2; omega
  have hz6 : na.size ≤ 40 := by
   have h9 : na.data.toList.length = na.size := Array.length_toList
   have := (name_words g6).2.2; omega
  obtain ⟨sx, hqsx⟩ : ∃ z, stB (itoaS ar) = z := ⟨_, rfl⟩
  have hzsx : sx.size ≤ 14 := by rw [← hqsx, stB_size]; exact itoaS_length (by omega)
  have HIsx := Lib.hid (fun W9 t9 => (by have h9 := itoaI_at (ar) (by omega) (by omega) W9 t9; rw [hqsx] at h9; exact h9 : Calls Tryd.prog 21 #[.int .i64 (ar)] W9 fun e w' => e = .returned (.string sx) ∧ Below W9.heap.size W9 w'))
  have HQsx := Lib.hid hqsx
  clear hqsx
  have HN := Lib.hid (by have h9 := show_exp sh nu ti ke na ar nn; rw [HQsn.out, HQst.out, HT.out, HQsx.out] at h9; exact h9 : t0 ++ (⟨#[32, 101, 120, 112, 111, 115, 117, 114, 101, 32]⟩ : ByteArray) ++ ke ++ (⟨#[32]⟩ : ByteArray) ++ na ++ (⟨#[32]⟩ : ByteArray) ++ sx = stB (showE ⟨sh, nu, 1, ti, ke, na, ar, nn⟩))
  clear g5 g6 g7 g8 HK
  have c_v_0 : w2'.cell? ⟨w.heap.size, 0, none⟩ = some (.string sh) := (HR_v.out.cell 0).trans rfl
  have c_v_1 : w2'.cell? ⟨w.heap.size, 1, none⟩ = some (.int .i64 (nu)) := (HR_v.out.cell 1).trans rfl
  have c_v_2 : w2'.cell? ⟨w.heap.size, 2, none⟩ = some (.int .i64 (1)) := (HR_v.out.cell 2).trans rfl
  have c_v_3 : w2'.cell? ⟨w.heap.size, 3, none⟩ = some (.int .i64 (ti)) := (HR_v.out.cell 3).trans rfl
  have c_v_4 : w2'.cell? ⟨w.heap.size, 4, none⟩ = some (.string ke) := (HR_v.out.cell 4).trans rfl
  have c_v_5 : w2'.cell? ⟨w.heap.size, 5, none⟩ = some (.string na) := (HR_v.out.cell 5).trans rfl
  have c_v_6 : w2'.cell? ⟨w.heap.size, 6, none⟩ = some (.int .i64 (ar)) := (HR_v.out.cell 6).trans rfl
  have c_v_7 : w2'.cell? ⟨w.heap.size, 7, none⟩ = some (.int .i64 (nn)) := (HR_v.out.cell 7).trans rfl
  go_upto_region 4 with (fail)
  refine Grow.wp_region_grow 14 [TP.eq (.string (t0)), TP.eq (.string (t0 ++ (⟨#[32, 101, 120, 112, 111, 115, 117, 114, 101, 32]⟩ : ByteArray))), TP.eq (.pointer (some ⟨w.heap.size, 4, none⟩)), TP.eq (.string ke), TP.eq (.string (t0 ++ (⟨#[32, 101, 120, 112, 111, 115, 117, 114, 101, 32]⟩ : ByteArray) ++ ke)), TP.eq (.string (t0 ++ (⟨#[32, 101, 120, 112, 111, 115, 117, 114, 101, 32]⟩ : ByteArray) ++ ke ++ (⟨#[32]⟩ : ByteArray))), TP.eq (.pointer (some ⟨w.heap.size, 5, none⟩)), TP.eq (.string na), TP.eq (.string (t0 ++ (⟨#[32, 101, 120, 112, 111, 115, 117, 114, 101, 32]⟩ : ByteArray) ++ ke ++ (⟨#[32]⟩ : ByteArray) ++ na)), TP.eq (.string (t0 ++ (⟨#[32, 101, 120, 112, 111, 115, 117, 114, 101, 32]⟩ : ByteArray) ++ ke ++ (⟨#[32]⟩ : ByteArray) ++ na ++ (⟨#[32]⟩ : ByteArray))), TP.eq (.pointer (some ⟨w.heap.size, 6, none⟩)), TP.eq (.int .i64 (ar)), TP.eq (.string sx), TP.eq (.string (t0 ++ (⟨#[32, 101, 120, 112, 111, 115, 117, 114, 101, 32]⟩ : ByteArray) ++ ke ++ (⟨#[32]⟩ : ByteArray) ++ na ++ (⟨#[32]⟩ : ByteArray) ++ sx))] [[], [0], [], [2], [1, 3], [4], [], [6], [5, 7], [8], [], [10], [11], [9, 12]] (by kernel_rfl) (by kernel_rfl) ⟨?o0g1, ?o1g1, ?o2g1, ?o3g1, ?o4g1, ?o5g1, ?o6g1, ?o7g1, ?o8g1, ?o9g1, ?o10g1, ?o11g1, ?o12g1, ?o13g1, trivial⟩ ?_
  case o0g1 | o2g1 | o6g1 | o10g1 =>
   intro w' hb
   show wpList _ _ _ _ _ _
   go_wp2
   exact ⟨rfl, Below.refl _ _, rfl⟩
  case o1g1 =>
   intro w' hb v1 hv1
   obtain rfl : v1 = _ := hv1
   show wpList _ _ _ _ _ _
   simp only [Grow.dstOf, zz1, zz3, zz4, Act.put, zz5, zz6, zz7]
   go_wp2
   exact ⟨rfl, Below.refl _ _, rfl⟩
  case o3g1 | o7g1 | o11g1 =>
   intro w' hb v1 hv1
   obtain rfl : v1 = _ := hv1
   have c_v_4' := zzc hb c_v_4
   have c_v_5' := zzc hb c_v_5
   have c_v_6' := zzc hb c_v_6
   show wpList _ _ _ _ _ _
   simp only [Grow.dstOf, zz1, zz2, zz3, zz4, Act.put, zz5, zz6, zz7]
   go_wp2
   exact ⟨rfl, Below.refl _ _, rfl⟩
  case o4g1 | o8g1 | o13g1 =>
   intro w' hb v1 hv1 v2 hv2
   obtain rfl : v1 = _ := hv1
   obtain rfl : v2 = _ := hv2
   show wpList _ _ _ _ _ _
   simp only [Grow.dstOf, zz1, zz2, zz3, zz4, Act.put, zz5, zz6, zz7]
   go_wp2
   exact ⟨rfl, Below.refl _ _, rfl⟩
  case o5g1 | o9g1 =>
   intro w' hb v1 hv1
   obtain rfl : v1 = _ := hv1
   show wpList _ _ _ _ _ _
   simp only [Grow.dstOf, zz1, zz2, zz3, zz4, Act.put, zz5, zz6, zz7]
   go_wp2
   exact ⟨rfl, Below.refl _ _, rfl⟩
  case o12g1 =>
   intro w' hb v1 hv1
   obtain rfl : v1 = _ := hv1
   show wpList _ _ _ _ _ _
   simp only [Grow.dstOf, zz1, zz2, zz3, zz4, Act.put, zz5, zz6, zz7]
   go_wp2_with fail
   refine (HIsx.out w' (HT0.out.ext (ext_trans HW.out hb))).mono ?_
   rintro e wz ⟨rfl, hbz⟩
   go_wp2
   exact ⟨rfl, hbz, rfl⟩
  intro w3' hbz u0 hu0 u1 hu1 u2 hu2 u3 hu3 u4 hu4 u5 hu5 u6 hu6 u7 hu7 u8 hu8 u9 hu9 u10 hu10 u11 hu11 u12 hu12 u13 hu13
  obtain rfl : u13 = _ := hu13
  clear hu0 hu1 hu2 hu3 hu4 hu5 hu6 hu7 hu8 hu9 hu10 hu11 hu12
  replace HR_v := Lib.hid (HR_v.out.ext hbz)
  replace HW := Lib.hid (ext_trans HW.out hbz)
  clear c_v_0 c_v_1 c_v_2 c_v_3 c_v_4 c_v_5 c_v_6 c_v_7
  clear hbz
  show wpList _ _ _ _ _ _
  simp only [Act.put, zz5, zz6, zz7]
  obtain ⟨sz, hsz⟩ : ∃ z, t0 ++ (⟨#[32, 101, 120, 112, 111, 115, 117, 114, 101, 32]⟩ : ByteArray) ++ ke ++ (⟨#[32]⟩ : ByteArray) ++ na ++ (⟨#[32]⟩ : ByteArray) ++ sx = z := ⟨_, rfl⟩
  rw [hsz]
  have HS := Lib.hid hsz
  clear hsz
  go_wp2
  exact bodyPost_ret (v := .string sz) (by simp [results, Tryd.results11, go_sem]) rfl ⟨by rw [← HS.out, HN.out], HW.out⟩
 ·have hz5 : ke.size ≤ 100 := by
   have h9 : ke.data.toList.length = ke.size := Array.length_toList
   have := (key_seen g5).2.2; omega
  have hz6 : na.size ≤ 40 := by
   have h9 : na.data.toList.length = na.size := Array.length_toList
   have := (name_words g6).2.2; omega
  obtain ⟨sx, hqsx⟩ : ∃ z, stB (itoaS nn) = z := ⟨_, rfl⟩
  have hzsx : sx.size ≤ 14 := by rw [← hqsx, stB_size]; exact itoaS_length (by omega)
  have HIsx := Lib.hid (fun W9 t9 => (by have h9 := itoaI_at (nn) (by omega) (by omega) W9 t9; rw [hqsx] at h9; exact h9 : Calls Tryd.prog 21 #[.int .i64 (nn)] W9 fun e w' => e = .returned (.string sx) ∧ Below W9.heap.size W9 w'))
  have HQsx := Lib.hid hqsx
  clear hqsx
  have HN := Lib.hid (by have h9 := show_out sh nu ti ke na ar nn; rw [HQsn.out, HQst.out, HT.out, HQsx.out] at h9; exact h9 : t0 ++ (⟨#[32, 111, 117, 116, 99, 111, 109, 101, 32]⟩ : ByteArray) ++ ke ++ (⟨#[32]⟩ : ByteArray) ++ na ++ (⟨#[32]⟩ : ByteArray) ++ sx = stB (showE ⟨sh, nu, 2, ti, ke, na, ar, nn⟩))
  clear g5 g6 g7 g8 HK
  have c_v_0 : w2'.cell? ⟨w.heap.size, 0, none⟩ = some (.string sh) := (HR_v.out.cell 0).trans rfl
  have c_v_1 : w2'.cell? ⟨w.heap.size, 1, none⟩ = some (.int .i64 (nu)) := (HR_v.out.cell 1).trans rfl
  have c_v_2 : w2'.cell? ⟨w.heap.size, 2, none⟩ = some (.int .i64 (2)) := (HR_v.out.cell 2).trans rfl
  have c_v_3 : w2'.cell? ⟨w.heap.size, 3, none⟩ = some (.int .i64 (ti)) := (HR_v.out.cell 3).trans rfl
  have c_v_4 : w2'.cell? ⟨w.heap.size, 4, none⟩ = some (.string ke) := (HR_v.out.cell 4).trans rfl
  have c_v_5 : w2'.cell? ⟨w.heap.size, 5, none⟩ = some (.string na) := (HR_v.out.cell 5).trans rfl
  have c_v_6 : w2'.cell? ⟨w.heap.size, 6, none⟩ = some (.int .i64 (ar)) := (HR_v.out.cell 6).trans rfl
  have c_v_7 : w2'.cell? ⟨w.heap.size, 7, none⟩ = some (.int .i64 (nn)) := (HR_v.out.cell 7).trans rfl
  go_upto_region 6 with (fail)
  refine Grow.wp_region_grow 14 [TP.eq (.string (t0)), TP.eq (.string (t0 ++ (⟨#[32, 111, 117, 116, 99, 111, 109, 101, 32]⟩ : ByteArray))), TP.eq (.pointer (some ⟨w.heap.size, 4, none⟩)), TP.eq (.string ke), TP.eq (.string (t0 ++ (⟨#[32, 111, 117, 116, 99, 111, 109, 101, 32]⟩ : ByteArray) ++ ke)), TP.eq (.string (t0 ++ (⟨#[32, 111, 117, 116, 99, 111, 109, 101, 32]⟩ : ByteArray) ++ ke ++ (⟨#[32]⟩ : ByteArray))), TP.eq (.pointer (some ⟨w.heap.size, 5, none⟩)), TP.eq (.string na), TP.eq (.string (t0 ++ (⟨#[32, 111, 117, 116, 99, 111, 109, 101, 32]⟩ : ByteArray) ++ ke ++ (⟨#[32]⟩ : ByteArray) ++ na)), TP.eq (.string (t0 ++ (⟨#[32, 111, 117, 116, 99, 111, 109, 101, 32]⟩ : ByteArray) ++ ke ++ (⟨#[32]⟩ : ByteArray) ++ na ++ (⟨#[32]⟩ : ByteArray))), TP.eq (.pointer (some ⟨w.heap.size, 7, none⟩)), TP.eq (.int .i64 (nn)), TP.eq (.string sx), TP.eq (.string (t0 ++ (⟨#[32, 111, 117, 116, 99, 111, 109, 101, 32]⟩ : ByteArray) ++ ke ++ (⟨#[32]⟩ : ByteArray) ++ na ++ (⟨#[32]⟩ : ByteArray) ++ sx))] [[], [0], [], [2], [1, 3], [4], [], [6], [5, 7], [8], [], [10], [11], [9, 12]] (by kernel_rfl) (by kernel_rfl) ⟨?o0g2, ?o1g2, ?o2g2, ?o3g2, ?o4g2, ?o5g2, ?o6g2, ?o7g2, ?o8g2, ?o9g2, ?o10g2, ?o11g2, ?o12g2, ?o13g2, trivial⟩ ?_
  case o0g2 | o2g2 | o6g2 | o10g2 =>
   intro w' hb
   show wpList _ _ _ _ _ _
   go_wp2
   exact ⟨rfl, Below.refl _ _, rfl⟩
  case o1g2 =>
   intro w' hb v1 hv1
   obtain rfl : v1 = _ := hv1
   show wpList _ _ _ _ _ _
   simp only [Grow.dstOf, zz1, zz3, zz4, Act.put, zz5, zz6, zz7]
   go_wp2
   exact ⟨rfl, Below.refl _ _, rfl⟩
  case o3g2 | o7g2 | o11g2 =>
   intro w' hb v1 hv1
   obtain rfl : v1 = _ := hv1
   have c_v_4' := zzc hb c_v_4
   have c_v_5' := zzc hb c_v_5
   have c_v_7' := zzc hb c_v_7
   show wpList _ _ _ _ _ _
   simp only [Grow.dstOf, zz1, zz2, zz3, zz4, Act.put, zz5, zz6, zz7]
   go_wp2
   exact ⟨rfl, Below.refl _ _, rfl⟩
  case o4g2 | o8g2 | o13g2 =>
   intro w' hb v1 hv1 v2 hv2
   obtain rfl : v1 = _ := hv1
   obtain rfl : v2 = _ := hv2
   show wpList _ _ _ _ _ _
   simp only [Grow.dstOf, zz1, zz2, zz3, zz4, Act.put, zz5, zz6, zz7]
   go_wp2
   exact ⟨rfl, Below.refl _ _, rfl⟩
  case o5g2 | o9g2 =>
   intro w' hb v1 hv1
   obtain rfl : v1 = _ := hv1
   show wpList _ _ _ _ _ _
   simp only [Grow.dstOf, zz1, zz2, zz3, zz4, Act.put, zz5, zz6, zz7]
   go_wp2
   exact ⟨rfl, Below.refl _ _, rfl⟩
  case o12g2 =>
   intro w' hb v1 hv1
   obtain rfl : v1 = _ := hv1
   show wpList _ _ _ _ _ _
   simp only [Grow.dstOf, zz1, zz2, zz3, zz4, Act.put, zz5, zz6, zz7]
   go_wp2_with fail
   refine (HIsx.out w' (HT0.out.ext (ext_trans HW.out hb))).mono ?_
   rintro e wz ⟨rfl, hbz⟩
   go_wp2
   exact ⟨rfl, hbz, rfl⟩
  intro w3' hbz u0 hu0 u1 hu1 u2 hu2 u3 hu3 u4 hu4 u5 hu5 u6 hu6 u7 hu7 u8 hu8 u9 hu9 u10 hu10 u11 hu11 u12 hu12 u13 hu13
  obtain rfl : u13 = _ := hu13
  clear hu0 hu1 hu2 hu3 hu4 hu5 hu6 hu7 hu8 hu9 hu10 hu11 hu12
  replace HR_v := Lib.hid (HR_v.out.ext hbz)
  replace HW := Lib.hid (ext_trans HW.out hbz)
  clear c_v_0 c_v_1 c_v_2 c_v_3 c_v_4 c_v_5 c_v_6 c_v_7
  clear hbz
  show wpList _ _ _ _ _ _
  simp only [Act.put, zz5, zz6, zz7]
  obtain ⟨sz, hsz⟩ : ∃ z, t0 ++ (⟨#[32, 111, 117, 116, 99, 111, 109, 101, 32]⟩ : ByteArray) ++ ke ++ (⟨#[32]⟩ : ByteArray) ++ na ++ (⟨#[32]⟩ : ByteArray) ++ sx = z := ⟨_, rfl⟩
  rw [hsz]
  have HS := Lib.hid hsz
  clear hsz
  go_wp2
  exact bodyPost_ret (v := .string sz) (by simp [results, Tryd.results11, go_sem]) rfl ⟨by rw [← HS.out, HN.out], HW.out⟩
set_option maxRecDepth 100000 in
set_option maxHeartbeats 16000000 in
theorem evShow_at (e : Ev) (he : e.ok) (w : World) (ht : Tb w) : Calls Tryd.prog 5 #[.agg (evC e)] w fun r w' => r = .returned (.tuple #[.string (shE e), .int .i64 (checkE e)]) ∧ Below w.heap.size w w' := by
 have HT0 := Lib.hid ht
 have HE := Lib.hid he
 obtain ⟨f, hf⟩ : ∃ z, checkE e = z := ⟨_, rfl⟩
 have HF := Lib.hid hf
 clear ht he hf
 go_enter Tryd.func5, Tryd.ntmps5
 go_upto_region 1 with (fail)
 refine wp_vr1 fun w1' hbz hR0 => ?_
 have HR_v : Hid (RH w1' w.heap.size #[.string e.shard, .int .i64 (e.number), .int .i64 (e.kind), .int .i64 (e.time), .string e.key, .string e.name, .int .i64 (e.arm), .int .i64 (e.n)] 23) := Lib.hid hR0
 have HW := Lib.hid hbz
 clear hbz hR0
 have c_v_0 : w1'.cell? ⟨w.heap.size, 0, none⟩ = some (.string e.shard) := (HR_v.out.cell 0).trans rfl
 have c_v_1 : w1'.cell? ⟨w.heap.size, 1, none⟩ = some (.int .i64 (e.number)) := (HR_v.out.cell 1).trans rfl
 have c_v_2 : w1'.cell? ⟨w.heap.size, 2, none⟩ = some (.int .i64 (e.kind)) := (HR_v.out.cell 2).trans rfl
 have c_v_3 : w1'.cell? ⟨w.heap.size, 3, none⟩ = some (.int .i64 (e.time)) := (HR_v.out.cell 3).trans rfl
 have c_v_4 : w1'.cell? ⟨w.heap.size, 4, none⟩ = some (.string e.key) := (HR_v.out.cell 4).trans rfl
 have c_v_5 : w1'.cell? ⟨w.heap.size, 5, none⟩ = some (.string e.name) := (HR_v.out.cell 5).trans rfl
 have c_v_6 : w1'.cell? ⟨w.heap.size, 6, none⟩ = some (.int .i64 (e.arm)) := (HR_v.out.cell 6).trans rfl
 have c_v_7 : w1'.cell? ⟨w.heap.size, 7, none⟩ = some (.int .i64 (e.n)) := (HR_v.out.cell 7).trans rfl
 go_wp2_with fail
 refine (event_Check e HE.out w1').mono ?_
 rintro e w2' ⟨rfl, hbz⟩
 rw [HF.out]
 replace HR_v := Lib.hid (HR_v.out.ext hbz)
 replace HW := Lib.hid (ext_trans HW.out hbz)
 clear c_v_0 c_v_1 c_v_2 c_v_3 c_v_4 c_v_5 c_v_6 c_v_7
 clear hbz
 by_cases h0 : f = 0
 ·subst h0
  have HN : Hid (stB (showE e) = shE e) := Lib.hid (by unfold shE; rw [if_pos HF.out])
  have HSH : Hid (∀ W9, Tb W9 → Calls Tryd.prog 11 #[.agg (evC e)] W9 fun r w' => r = .returned (.string (stB (showE e))) ∧ Below W9.heap.size W9 w') := Lib.hid (fun W9 t9 => evshow_at e (rightE_of HF.out) W9 t9)
  obtain ⟨st, hst⟩ : ∃ z, stB (showE e) = z := ⟨_, rfl⟩
  rw [hst] at HN HSH
  clear hst
  have c_v_0 : w2'.cell? ⟨w.heap.size, 0, none⟩ = some (.string e.shard) := (HR_v.out.cell 0).trans rfl
  have c_v_1 : w2'.cell? ⟨w.heap.size, 1, none⟩ = some (.int .i64 (e.number)) := (HR_v.out.cell 1).trans rfl
  have c_v_2 : w2'.cell? ⟨w.heap.size, 2, none⟩ = some (.int .i64 (e.kind)) := (HR_v.out.cell 2).trans rfl
  have c_v_3 : w2'.cell? ⟨w.heap.size, 3, none⟩ = some (.int .i64 (e.time)) := (HR_v.out.cell 3).trans rfl
  have c_v_4 : w2'.cell? ⟨w.heap.size, 4, none⟩ = some (.string e.key) := (HR_v.out.cell 4).trans rfl
  have c_v_5 : w2'.cell? ⟨w.heap.size, 5, none⟩ = some (.string e.name) := (HR_v.out.cell 5).trans rfl
  have c_v_6 : w2'.cell? ⟨w.heap.size, 6, none⟩ = some (.int .i64 (e.arm)) := (HR_v.out.cell 6).trans rfl
  have c_v_7 : w2'.cell? ⟨w.heap.size, 7, none⟩ = some (.int .i64 (e.n)) := (HR_v.out.cell 7).trans rfl
  go_wp2_with fail
  refine (HSH.out w2' (HT0.out.ext HW.out)).mono ?_
  rintro e w3' ⟨rfl, hbz⟩
  replace HR_v := Lib.hid (HR_v.out.ext hbz)
  replace HW := Lib.hid (ext_trans HW.out hbz)
  clear c_v_0 c_v_1 c_v_2 c_v_3 c_v_4 c_v_5 c_v_6 c_v_7
  clear hbz
  go_wp2
  exact bodyPost_ret (v := .tuple #[.string st, .int .i64 0]) (by simp [results, Tryd.results5, go_sem]) rfl ⟨by rw [← HN.out, HF.out], HW.out⟩
 ·have HN : Hid (⟨#[]⟩ = shE e) := Lib.hid (by unfold shE; rw [if_neg (by rw [HF.out]; exact h0)])
  have hne : (f != 0) = true := by simpa using h0
  clear h0
  go_wp2
  exact bodyPost_ret (v := .tuple #[.string ⟨#[]⟩, .int .i64 f]) (by simp [results, Tryd.results5, go_sem]) rfl ⟨by rw [← HN.out, HF.out], HW.out⟩
end Tx
end Go.Proofs.YtigjkcbpbjefaaaDoor
