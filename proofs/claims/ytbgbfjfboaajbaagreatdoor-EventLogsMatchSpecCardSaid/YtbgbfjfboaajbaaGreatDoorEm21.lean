/- show, Show of package event. Printed by gen_evw.py. WriteString of a strings.Builder of the call's own (the builder's other methods stand in the shelf). -/
import Derived.Test.YtbgbfjfboaajbaaGreatDoorEm13
import Derived.Test.YtbgbfjfboaajbaaGreatDoorProg
import Derived.Test.YtbgbfjfboaajbaaGreatDoorEm00
import Derived.Lib.Strings
import Derived.Lib.Walk
import Derived.Lib.Builder
import Derived.Lib.AppendStr
import Derived.WalkKit
import Derived.Laws.Externs
namespace Go.Proofs.YtbgbfjfboaajbaaGreatDoor
open Go.RowKit
namespace Tx
open _root_.Go.Proofs.YtbgbfjfboaajbaaGreatDoor.Nm
open _root_.Go.Proofs.YtbgbfjfboaajbaaGreatDoor.Nt (RH RH.cell RH.box RH.lt RH.new RH.ext RH.fre RH.set RH.other)
theorem stB_app (l r : List UInt8) : stB l ++ stB r = stB (l ++ r) := by
 apply ByteArray.ext
 simp [stB]
theorem stL (s : ByteArray) : s = stB s.data.toList := (stB_self s).symm
theorem show_mark (sh : ByteArray) (nu ti : Int) (ke na : ByteArray) (ar nn : Int) : sh ++ ⟨#[32]⟩ ++ stB (itoaS nu) ++ ⟨#[32]⟩ ++ stB (itoaS ti) ++ ⟨#[32, 109, 97, 114, 107]⟩ = stB (showE ⟨sh, nu, 3, ti, ke, na, ar, nn⟩) := by
 rw [stL sh, show (⟨#[32]⟩ : ByteArray) = stB [32] from rfl, show (⟨#[32, 109, 97, 114, 107]⟩ : ByteArray) = stB (32 :: markL) from rfl]
 simp only [stB_app]
 congr 1
 simp [showE, wordsE, joinL, stB]
theorem show_exp (sh : ByteArray) (nu ti : Int) (ke na : ByteArray) (ar nn : Int) : sh ++ ⟨#[32]⟩ ++ stB (itoaS nu) ++ ⟨#[32]⟩ ++ stB (itoaS ti) ++ ⟨#[32, 101, 120, 112, 111, 115, 117, 114, 101, 32]⟩ ++ ke ++ ⟨#[32]⟩ ++ na ++ ⟨#[32]⟩ ++ stB (itoaS ar) = stB (showE ⟨sh, nu, 1, ti, ke, na, ar, nn⟩) := by
 rw [stL sh, stL ke, stL na, show (⟨#[32]⟩ : ByteArray) = stB [32] from rfl, show (⟨#[32, 101, 120, 112, 111, 115, 117, 114, 101, 32]⟩ : ByteArray) = stB (32 :: (expL ++ [32])) from rfl]
 simp only [stB_app]
 congr 1
 simp [showE, wordsE, joinL, stB]
theorem show_out (sh : ByteArray) (nu ti : Int) (ke na : ByteArray) (ar nn : Int) : sh ++ ⟨#[32]⟩ ++ stB (itoaS nu) ++ ⟨#[32]⟩ ++ stB (itoaS ti) ++ ⟨#[32, 111, 117, 116, 99, 111, 109, 101, 32]⟩ ++ ke ++ ⟨#[32]⟩ ++ na ++ ⟨#[32]⟩ ++ stB (itoaS nn) = stB (showE ⟨sh, nu, 2, ti, ke, na, ar, nn⟩) := by
 rw [stL sh, stL ke, stL na, show (⟨#[32]⟩ : ByteArray) = stB [32] from rfl, show (⟨#[32, 111, 117, 116, 99, 111, 109, 101, 32]⟩ : ByteArray) = stB (32 :: (outL ++ [32])) from rfl]
 simp only [stB_app]
 congr 1
 simp [showE, wordsE, joinL, stB]
set_option maxRecDepth 100000 in
set_option maxHeartbeats 16000000 in
theorem evshow_at (e : Ev) (h : RightE e) (w : World) (ht : Tb w) : Calls Tryz.prog 12 #[.agg (evC e)] w fun r w' => r = .returned (.string (stB (showE e))) ∧ Below w.heap.size w w' := by
 have HT0 := Lib.hid ht
 obtain ⟨sh, nu, ki, ti, ke, na, ar, nn⟩ := e
 obtain ⟨g1, g2, g3, g4⟩ := h
 simp only at g1 g2 g3 g4
 have hz1 : sh.size ≤ 40 := by
  have h9 : sh.data.toList.length = sh.size := Array.length_toList
  have := (name_words g1).2.2; omega
 have HK := Lib.hid g4
 obtain ⟨sn, hqsn⟩ : ∃ z, stB (itoaS nu) = z := ⟨_, rfl⟩
 have hzsn : sn.size ≤ 14 := by rw [← hqsn, stB_size]; exact itoaS_length (by omega)
 have HIsn := Lib.hid (fun W9 t9 => (by have h9 := itoaI_at (nu) (by omega) (by omega) W9 t9; rw [hqsn] at h9; exact h9 : Calls Tryz.prog 28 #[.int .i64 (nu)] W9 fun e w' => e = .returned (.string sn) ∧ Below W9.heap.size W9 w'))
 have HQsn := Lib.hid hqsn
 clear hqsn
 obtain ⟨st, hqst⟩ : ∃ z, stB (itoaS ti) = z := ⟨_, rfl⟩
 have hzst : st.size ≤ 14 := by rw [← hqst, stB_size]; exact itoaS_length (by omega)
 have HIst := Lib.hid (fun W9 t9 => (by have h9 := itoaI_at (ti) (by omega) (by omega) W9 t9; rw [hqst] at h9; exact h9 : Calls Tryz.prog 28 #[.int .i64 (ti)] W9 fun e w' => e = .returned (.string st) ∧ Below W9.heap.size W9 w'))
 have HQst := Lib.hid hqst
 clear hqst
 clear ht g1 g2 g3 g4
 go_enter Tryz.func12, Tryz.ntmps12
 go_upto_region 1 with (fail)
 refine wp_vr1 fun w1' hbz hR0 => ?_
 have HR_v : Hid (RH w1' w.heap.size #[.string sh, .int .i64 (nu), .int .i64 (ki), .int .i64 (ti), .string ke, .string na, .int .i64 (ar), .int .i64 (nn)] 31) := Lib.hid hR0
 have HW := Lib.hid hbz
 clear hbz hR0
 have c_v_0 : w1'.cell? ⟨w.heap.size, 0, none⟩ = some (.string sh) := (HR_v.out.cell 0).trans rfl
 have c_v_1 : w1'.cell? ⟨w.heap.size, 1, none⟩ = some (.int .i64 (nu)) := (HR_v.out.cell 1).trans rfl
 have c_v_2 : w1'.cell? ⟨w.heap.size, 2, none⟩ = some (.int .i64 (ki)) := (HR_v.out.cell 2).trans rfl
 have c_v_3 : w1'.cell? ⟨w.heap.size, 3, none⟩ = some (.int .i64 (ti)) := (HR_v.out.cell 3).trans rfl
 have c_v_4 : w1'.cell? ⟨w.heap.size, 4, none⟩ = some (.string ke) := (HR_v.out.cell 4).trans rfl
 have c_v_5 : w1'.cell? ⟨w.heap.size, 5, none⟩ = some (.string na) := (HR_v.out.cell 5).trans rfl
 have c_v_6 : w1'.cell? ⟨w.heap.size, 6, none⟩ = some (.int .i64 (ar)) := (HR_v.out.cell 6).trans rfl
 have c_v_7 : w1'.cell? ⟨w.heap.size, 7, none⟩ = some (.int .i64 (nn)) := (HR_v.out.cell 7).trans rfl
 refine Grow.wp_region_grow 12 [TP.eq (.pointer (some ⟨w.heap.size, 0, none⟩)), TP.eq (.string sh), TP.eq (.string (sh ++ (⟨#[32]⟩ : ByteArray))), TP.eq (.pointer (some ⟨w.heap.size, 1, none⟩)), TP.eq (.int .i64 (nu)), TP.eq (.string sn), TP.eq (.string (sh ++ (⟨#[32]⟩ : ByteArray) ++ sn)), TP.eq (.string (sh ++ (⟨#[32]⟩ : ByteArray) ++ sn ++ (⟨#[32]⟩ : ByteArray))), TP.eq (.pointer (some ⟨w.heap.size, 3, none⟩)), TP.eq (.int .i64 (ti)), TP.eq (.string st), TP.eq (.string (sh ++ (⟨#[32]⟩ : ByteArray) ++ sn ++ (⟨#[32]⟩ : ByteArray) ++ st))] [[], [0], [1], [], [3], [4], [2, 5], [6], [], [8], [9], [7, 10]] (by kernel_rfl) (by kernel_rfl) ⟨?o0g, ?o1g, ?o2g, ?o3g, ?o4g, ?o5g, ?o6g, ?o7g, ?o8g, ?o9g, ?o10g, ?o11g, trivial⟩ ?_
 case o0g | o3g | o8g =>
  intro w' hb
  show wpList _ _ _ _ _ _
  go_wp2
  exact ⟨rfl, Below.refl _ _, rfl⟩
 case o1g =>
  intro w' hb v1 hv1
  obtain rfl : v1 = _ := hv1
  have c_v_0' := zzc hb c_v_0
  show wpList _ _ _ _ _ _
  simp only [Grow.dstOf, zz1, zz3, zz4, Act.put, zz5, zz6, zz7]
  go_wp2
  exact ⟨rfl, Below.refl _ _, rfl⟩
 case o2g | o7g =>
  intro w' hb v1 hv1
  obtain rfl : v1 = _ := hv1
  show wpList _ _ _ _ _ _
  simp only [Grow.dstOf, zz1, zz2, zz3, zz4, Act.put, zz5, zz6, zz7]
  go_wp2
  exact ⟨rfl, Below.refl _ _, rfl⟩
 case o4g | o9g =>
  intro w' hb v1 hv1
  obtain rfl : v1 = _ := hv1
  have c_v_1' := zzc hb c_v_1
  have c_v_3' := zzc hb c_v_3
  show wpList _ _ _ _ _ _
  simp only [Grow.dstOf, zz1, zz2, zz3, zz4, Act.put, zz5, zz6, zz7]
  go_wp2
  exact ⟨rfl, Below.refl _ _, rfl⟩
 case o5g =>
  intro w' hb v1 hv1
  obtain rfl : v1 = _ := hv1
  show wpList _ _ _ _ _ _
  simp only [Grow.dstOf, zz1, zz2, zz3, zz4, Act.put, zz5, zz6, zz7]
  go_wp2_with fail
  refine (HIsn.out w' (HT0.out.ext (ext_trans HW.out hb))).mono ?_
  rintro e wz ⟨rfl, hbz⟩
  go_wp2
  exact ⟨rfl, hbz, rfl⟩
 case o6g | o11g =>
  intro w' hb v1 hv1 v2 hv2
  obtain rfl : v1 = _ := hv1
  obtain rfl : v2 = _ := hv2
  show wpList _ _ _ _ _ _
  simp only [Grow.dstOf, zz1, zz2, zz3, zz4, Act.put, zz5, zz6, zz7]
  go_wp2
  exact ⟨rfl, Below.refl _ _, rfl⟩
 case o10g =>
  intro w' hb v1 hv1
  obtain rfl : v1 = _ := hv1
  show wpList _ _ _ _ _ _
  simp only [Grow.dstOf, zz1, zz2, zz3, zz4, Act.put, zz5, zz6, zz7]
  go_wp2_with fail
  refine (HIst.out w' (HT0.out.ext (ext_trans HW.out hb))).mono ?_
  rintro e wz ⟨rfl, hbz⟩
  go_wp2
  exact ⟨rfl, hbz, rfl⟩
 intro w2' hbz u0 hu0 u1 hu1 u2 hu2 u3 hu3 u4 hu4 u5 hu5 u6 hu6 u7 hu7 u8 hu8 u9 hu9 u10 hu10 u11 hu11
 obtain rfl : u11 = _ := hu11
 clear hu0 hu1 hu2 hu3 hu4 hu5 hu6 hu7 hu8 hu9 hu10
 replace HR_v := Lib.hid (HR_v.out.ext hbz)
 replace HW := Lib.hid (ext_trans HW.out hbz)
 clear c_v_0 c_v_1 c_v_2 c_v_3 c_v_4 c_v_5 c_v_6 c_v_7
 clear hbz
 show wpList _ _ _ _ _ _
 simp only [Act.put, zz5, zz6, zz7]
 obtain ⟨t0, ht0⟩ : ∃ z, sh ++ (⟨#[32]⟩ : ByteArray) ++ sn ++ (⟨#[32]⟩ : ByteArray) ++ st = z := ⟨_, rfl⟩
 have hzt : t0.size ≤ 70 := by
  rw [← ht0]
  simp only [ByteArray.size_append]
  have h9 : (⟨#[32]⟩ : ByteArray).size = 1 := rfl
  omega
 rw [ht0]
 have HT := Lib.hid ht0
 clear ht0 HIsn HIst hzsn hzst hz1
 rcases HK.out with ⟨rfl, -⟩ | ⟨rfl, g5, g6, g7, g8⟩ | ⟨rfl, g5, g6, g7, g8⟩
 ·clear HK
  have c_v_0 : w2'.cell? ⟨w.heap.size, 0, none⟩ = some (.string sh) := (HR_v.out.cell 0).trans rfl
  have c_v_1 : w2'.cell? ⟨w.heap.size, 1, none⟩ = some (.int .i64 (nu)) := (HR_v.out.cell 1).trans rfl
  have c_v_2 : w2'.cell? ⟨w.heap.size, 2, none⟩ = some (.int .i64 (3)) := (HR_v.out.cell 2).trans rfl
  have c_v_3 : w2'.cell? ⟨w.heap.size, 3, none⟩ = some (.int .i64 (ti)) := (HR_v.out.cell 3).trans rfl
  have c_v_4 : w2'.cell? ⟨w.heap.size, 4, none⟩ = some (.string ke) := (HR_v.out.cell 4).trans rfl
  have c_v_5 : w2'.cell? ⟨w.heap.size, 5, none⟩ = some (.string na) := (HR_v.out.cell 5).trans rfl
  have c_v_6 : w2'.cell? ⟨w.heap.size, 6, none⟩ = some (.int .i64 (ar)) := (HR_v.out.cell 6).trans rfl
  have c_v_7 : w2'.cell? ⟨w.heap.size, 7, none⟩ = some (.int .i64 (nn)) := (HR_v.out.cell 7).trans rfl
  have HN := Lib.hid (by have h9 := show_mark sh nu ti ke na ar nn; rw [HQsn.out, HQst.out, HT.out] at h9; exact h9 : t0 ++ (⟨#[32, 109, 97, 114, 107]⟩ : ByteArray) = stB (showE ⟨sh, nu, 3, ti, ke, na, ar, nn⟩))
  go_wp2
  exact bodyPost_ret (v := .string (t0 ++ ⟨#[32, 109, 97, 114, 107]⟩)) (by simp [results, Tryz.results12, go_sem]) rfl ⟨by rw [HN.out], HW.out⟩
 ·have hz5 : ke.size ≤ 100 := by
   have h9 : ke.data.toList.length = ke.size := Array.length_toList
   have := (key_seen g5).2.2; omega
  have hz6 : na.size ≤ 40 := by
   have h9 : na.data.toList.length = na.size := Array.length_toList
   have := (name_words g6).2.2; omega
  obtain ⟨sx, hqsx⟩ : ∃ z, stB (itoaS ar) = z := ⟨_, rfl⟩
  have hzsx : sx.size ≤ 14 := by rw [← hqsx, stB_size]; exact itoaS_length (by omega)
  have HIsx := Lib.hid (fun W9 t9 => (by have h9 := itoaI_at (ar) (by omega) (by omega) W9 t9; rw [hqsx] at h9; exact h9 : Calls Tryz.prog 28 #[.int .i64 (ar)] W9 fun e w' => e = .returned (.string sx) ∧ Below W9.heap.size W9 w'))
  have HQsx := Lib.hid hqsx
  clear hqsx
  have HN := Lib.hid (by have h9 := show_exp sh nu ti ke na ar nn; rw [HQsn.out, HQst.out, HT.out, HQsx.out] at h9; exact h9 : t0 ++ (⟨#[32, 101, 120, 112, 111, 115, 117, 114, 101, 32]⟩ : ByteArray) ++ ke ++ (⟨#[32]⟩ : ByteArray) ++ na ++ (⟨#[32]⟩ : ByteArray) ++ sx = stB (showE ⟨sh, nu, 1, ti, ke, na, ar, nn⟩))
  clear g5 g6 g7 g8 HK
  have c_v_0 : w2'.cell? ⟨w.heap.size, 0, none⟩ = some (.string sh) := (HR_v.out.cell 0).trans rfl
  have c_v_1 : w2'.cell? ⟨w.heap.size, 1, none⟩ = some (.int .i64 (nu)) := (HR_v.out.cell 1).trans rfl
  have c_v_2 : w2'.cell? ⟨w.heap.size, 2, none⟩ = some (.int .i64 (1)) := (HR_v.out.cell 2).trans rfl
  have c_v_3 : w2'.cell? ⟨w.heap.size, 3, none⟩ = some (.int .i64 (ti)) := (HR_v.out.cell 3).trans rfl
  have c_v_4 : w2'.cell? ⟨w.heap.size, 4, none⟩ = some (.string ke) := (HR_v.out.cell 4).trans rfl
  have c_v_5 : w2'.cell? ⟨w.heap.size, 5, none⟩ = some (.string na) := (HR_v.out.cell 5).trans rfl
  have c_v_6 : w2'.cell? ⟨w.heap.size, 6, none⟩ = some (.int .i64 (ar)) := (HR_v.out.cell 6).trans rfl
  have c_v_7 : w2'.cell? ⟨w.heap.size, 7, none⟩ = some (.int .i64 (nn)) := (HR_v.out.cell 7).trans rfl
  go_upto_region 4 with (fail)
  refine Grow.wp_region_grow 14 [TP.eq (.string (t0)), TP.eq (.string (t0 ++ (⟨#[32, 101, 120, 112, 111, 115, 117, 114, 101, 32]⟩ : ByteArray))), TP.eq (.pointer (some ⟨w.heap.size, 4, none⟩)), TP.eq (.string ke), TP.eq (.string (t0 ++ (⟨#[32, 101, 120, 112, 111, 115, 117, 114, 101, 32]⟩ : ByteArray) ++ ke)), TP.eq (.string (t0 ++ (⟨#[32, 101, 120, 112, 111, 115, 117, 114, 101, 32]⟩ : ByteArray) ++ ke ++ (⟨#[32]⟩ : ByteArray))), TP.eq (.pointer (some ⟨w.heap.size, 5, none⟩)), TP.eq (.string na), TP.eq (.string (t0 ++ (⟨#[32, 101, 120, 112, 111, 115, 117, 114, 101, 32]⟩ : ByteArray) ++ ke ++ (⟨#[32]⟩ : ByteArray) ++ na)), TP.eq (.string (t0 ++ (⟨#[32, 101, 120, 112, 111, 115, 117, 114, 101, 32]⟩ : ByteArray) ++ ke ++ (⟨#[32]⟩ : ByteArray) ++ na ++ (⟨#[32]⟩ : ByteArray))), TP.eq (.pointer (some ⟨w.heap.size, 6, none⟩)), TP.eq (.int .i64 (ar)), TP.eq (.string sx), TP.eq (.string (t0 ++ (⟨#[32, 101, 120, 112, 111, 115, 117, 114, 101, 32]⟩ : ByteArray) ++ ke ++ (⟨#[32]⟩ : ByteArray) ++ na ++ (⟨#[32]⟩ : ByteArray) ++ sx))] [[], [0], [], [2], [1, 3], [4], [], [6], [5, 7], [8], [], [10], [11], [9, 12]] (by kernel_rfl) (by kernel_rfl) ⟨?o0g1, ?o1g1, ?o2g1, ?o3g1, ?o4g1, ?o5g1, ?o6g1, ?o7g1, ?o8g1, ?o9g1, ?o10g1, ?o11g1, ?o12g1, ?o13g1, trivial⟩ ?_
  case o0g1 | o2g1 | o6g1 | o10g1 =>
   intro w' hb
   show wpList _ _ _ _ _ _
   go_wp2
   exact ⟨rfl, Below.refl _ _, rfl⟩
  case o1g1 =>
   intro w' hb v1 hv1
   obtain rfl : v1 = _ := hv1
   show wpList _ _ _ _ _ _
   simp only [Grow.dstOf, zz1, zz3, zz4, Act.put, zz5, zz6, zz7]
   go_wp2
   exact ⟨rfl, Below.refl _ _, rfl⟩
  case o3g1 | o7g1 | o11g1 =>
   intro w' hb v1 hv1
   obtain rfl : v1 = _ := hv1
   have c_v_4' := zzc hb c_v_4
   have c_v_5' := zzc hb c_v_5
   have c_v_6' := zzc hb c_v_6
   show wpList _ _ _ _ _ _
   simp only [Grow.dstOf, zz1, zz2, zz3, zz4, Act.put, zz5, zz6, zz7]
   go_wp2
   exact ⟨rfl, Below.refl _ _, rfl⟩
  case o4g1 | o8g1 | o13g1 =>
   intro w' hb v1 hv1 v2 hv2
   obtain rfl : v1 = _ := hv1
   obtain rfl : v2 = _ := hv2
   show wpList _ _ _ _ _ _
   simp only [Grow.dstOf, zz1, zz2, zz3, zz4, Act.put, zz5, zz6, zz7]
   go_wp2
   exact ⟨rfl, Below.refl _ _, rfl⟩
  case o5g1 | o9g1 =>
   intro w' hb v1 hv1
   obtain rfl : v1 = _ := hv1
   show wpList _ _ _ _ _ _
   simp only [Grow.dstOf, zz1, zz2, zz3, zz4, Act.put, zz5, zz6, zz7]
   go_wp2
   exact ⟨rfl, Below.refl _ _, rfl⟩
  case o12g1 =>
   intro w' hb v1 hv1
   obtain rfl : v1 = _ := hv1
   show wpList _ _ _ _ _ _
   simp only [Grow.dstOf, zz1, zz2, zz3, zz4, Act.put, zz5, zz6, zz7]
   go_wp2_with fail
   refine (HIsx.out w' (HT0.out.ext (ext_trans HW.out hb))).mono ?_
   rintro e wz ⟨rfl, hbz⟩
   go_wp2
   exact ⟨rfl, hbz, rfl⟩
  intro w3' hbz u0 hu0 u1 hu1 u2 hu2 u3 hu3 u4 hu4 u5 hu5 u6 hu6 u7 hu7 u8 hu8 u9 hu9 u10 hu10 u11 hu11 u12 hu12 u13 hu13
  obtain rfl : u13 = _ := hu13
  clear hu0 hu1 hu2 hu3 hu4 hu5 hu6 hu7 hu8 hu9 hu10 hu11 hu12
  replace HR_v := Lib.hid (HR_v.out.ext hbz)
  replace HW := Lib.hid (ext_trans HW.out hbz)
  clear c_v_0 c_v_1 c_v_2 c_v_3 c_v_4 c_v_5 c_v_6 c_v_7
  clear hbz
  show wpList _ _ _ _ _ _
  simp only [Act.put, zz5, zz6, zz7]
  obtain ⟨sz, hsz⟩ : ∃ z, t0 ++ (⟨#[32, 101, 120, 112, 111, 115, 117, 114, 101, 32]⟩ : ByteArray) ++ ke ++ (⟨#[32]⟩ : ByteArray) ++ na ++ (⟨#[32]⟩ : ByteArray) ++ sx = z := ⟨_, rfl⟩
  rw [hsz]
  have HS := Lib.hid hsz
  clear hsz
  go_wp2
  exact bodyPost_ret (v := .string sz) (by simp [results, Tryz.results12, go_sem]) rfl ⟨by rw [← HS.out, HN.out], HW.out⟩
 ·have hz5 : ke.size ≤ 100 := by
   have h9 : ke.data.toList.length = ke.size := Array.length_toList
   have := (key_seen g5).2.2; omega
  have hz6 : na.size ≤ 40 := by
   have h9 : na.data.toList.length = na.size := Array.length_toList
   have := (name_words g6).2.2; omega
  obtain ⟨sx, hqsx⟩ : ∃ z, stB (itoaS nn) = z := ⟨_, rfl⟩
  have hzsx : sx.size ≤ 14 := by rw [← hqsx, stB_size]; exact itoaS_length (by omega)
  have HIsx := Lib.hid (fun W9 t9 => (by have h9 := itoaI_at (nn) (by omega) (by omega) W9 t9; rw [hqsx] at h9; exact h9 : Calls Tryz.prog 28 #[.int .i64 (nn)] W9 fun e w' => e = .returned (.string sx) ∧ Below W9.heap.size W9 w'))
  have HQsx := Lib.hid hqsx
  clear hqsx
  have HN := Lib.hid (by have h9 := show_out sh nu ti ke na ar nn; rw [HQsn.out, HQst.out, HT.out, HQsx.out] at h9; exact h9 : t0 ++ (⟨#[32, 111, 117, 116, 99, 111, 109, 101, 32]⟩ : ByteArray) ++ ke ++ (⟨#[32]⟩ : ByteArray) ++ na ++ (⟨#[32]⟩ : ByteArray) ++ sx = stB (showE ⟨sh, nu, 2, ti, ke, na, ar, nn⟩))
  clear g5 g6 g7 g8 HK
  have c_v_0 : w2'.cell? ⟨w.heap.size, 0, none⟩ = some (.string sh) := (HR_v.out.cell 0).trans rfl
  have c_v_1 : w2'.cell? ⟨w.heap.size, 1, none⟩ = some (.int .i64 (nu)) := (HR_v.out.cell 1).trans rfl
  have c_v_2 : w2'.cell? ⟨w.heap.size, 2, none⟩ = some (.int .i64 (2)) := (HR_v.out.cell 2).trans rfl
  have c_v_3 : w2'.cell? ⟨w.heap.size, 3, none⟩ = some (.int .i64 (ti)) := (HR_v.out.cell 3).trans rfl
  have c_v_4 : w2'.cell? ⟨w.heap.size, 4, none⟩ = some (.string ke) := (HR_v.out.cell 4).trans rfl
  have c_v_5 : w2'.cell? ⟨w.heap.size, 5, none⟩ = some (.string na) := (HR_v.out.cell 5).trans rfl
  have c_v_6 : w2'.cell? ⟨w.heap.size, 6, none⟩ = some (.int .i64 (ar)) := (HR_v.out.cell 6).trans rfl
  have c_v_7 : w2'.cell? ⟨w.heap.size, 7, none⟩ = some (.int .i64 (nn)) := (HR_v.out.cell 7).trans rfl
  go_upto_region 6 with (fail)
  refine Grow.wp_region_grow 14 [TP.eq (.string (t0)), TP.eq (.string (t0 ++ (⟨#[32, 111, 117, 116, 99, 111, 109, 101, 32]⟩ : ByteArray))), TP.eq (.pointer (some ⟨w.heap.size, 4, none⟩)), TP.eq (.string ke), TP.eq (.string (t0 ++ (⟨#[32, 111, 117, 116, 99, 111, 109, 101, 32]⟩ : ByteArray) ++ ke)), TP.eq (.string (t0 ++ (⟨#[32, 111, 117, 116, 99, 111, 109, 101, 32]⟩ : ByteArray) ++ ke ++ (⟨#[32]⟩ : ByteArray))), TP.eq (.pointer (some ⟨w.heap.size, 5, none⟩)), TP.eq (.string na), TP.eq (.string (t0 ++ (⟨#[32, 111, 117, 116, 99, 111, 109, 101, 32]⟩ : ByteArray) ++ ke ++ (⟨#[32]⟩ : ByteArray) ++ na)), TP.eq (.string (t0 ++ (⟨#[32, 111, 117, 116, 99, 111, 109, 101, 32]⟩ : ByteArray) ++ ke ++ (⟨#[32]⟩ : ByteArray) ++ na ++ (⟨#[32]⟩ : ByteArray))), TP.eq (.pointer (some ⟨w.heap.size, 7, none⟩)), TP.eq (.int .i64 (nn)), TP.eq (.string sx), TP.eq (.string (t0 ++ (⟨#[32, 111, 117, 116, 99, 111, 109, 101, 32]⟩ : ByteArray) ++ ke ++ (⟨#[32]⟩ : ByteArray) ++ na ++ (⟨#[32]⟩ : ByteArray) ++ sx))] [[], [0], [], [2], [1, 3], [4], [], [6], [5, 7], [8], [], [10], [11], [9, 12]] (by kernel_rfl) (by kernel_rfl) ⟨?o0g2, ?o1g2, ?o2g2, ?o3g2, ?o4g2, ?o5g2, ?o6g2, ?o7g2, ?o8g2, ?o9g2, ?o10g2, ?o11g2, ?o12g2, ?o13g2, trivial⟩ ?_
  case o0g2 | o2g2 | o6g2 | o10g2 =>
   intro w' hb
   show wpList _ _ _ _ _ _
   go_wp2
   exact ⟨rfl, Below.refl _ _, rfl⟩
  case o1g2 =>
   intro w' hb v1 hv1
   obtain rfl : v1 = _ := hv1
   show wpList _ _ _ _ _ _
   simp only [Grow.dstOf, zz1, zz3, zz4, Act.put, zz5, zz6, zz7]
   go_wp2
   exact ⟨rfl, Below.refl _ _, rfl⟩
  case o3g2 | o7g2 | o11g2 =>
   intro w' hb v1 hv1
   obtain rfl : v1 = _ := hv1
   have c_v_4' := zzc hb c_v_4
   have c_v_5' := zzc hb c_v_5
   have c_v_7' := zzc hb c_v_7
   show wpList _ _ _ _ _ _
   simp only [Grow.dstOf, zz1, zz2, zz3, zz4, Act.put, zz5, zz6, zz7]
   go_wp2
   exact ⟨rfl, Below.refl _ _, rfl⟩
  case o4g2 | o8g2 | o13g2 =>
   intro w' hb v1 hv1 v2 hv2
   obtain rfl : v1 = _ := hv1
   obtain rfl : v2 = _ := hv2
   show wpList _ _ _ _ _ _
   simp only [Grow.dstOf, zz1, zz2, zz3, zz4, Act.put, zz5, zz6, zz7]
   go_wp2
   exact ⟨rfl, Below.refl _ _, rfl⟩
  case o5g2 | o9g2 =>
   intro w' hb v1 hv1
   obtain rfl : v1 = _ := hv1
   show wpList _ _ _ _ _ _
   simp only [Grow.dstOf, zz1, zz2, zz3, zz4, Act.put, zz5, zz6, zz7]
   go_wp2
   exact ⟨rfl, Below.refl _ _, rfl⟩
  case o12g2 =>
   intro w' hb v1 hv1
   obtain rfl : v1 = _ := hv1
   show wpList _ _ _ _ _ _
   simp only [Grow.dstOf, zz1, zz2, zz3, zz4, Act.put, zz5, zz6, zz7]
   go_wp2_with fail
   refine (HIsx.out w' (HT0.out.ext (ext_trans HW.out hb))).mono ?_
   rintro e wz ⟨rfl, hbz⟩
   go_wp2
   exact ⟨rfl, hbz, rfl⟩
  intro w3' hbz u0 hu0 u1 hu1 u2 hu2 u3 hu3 u4 hu4 u5 hu5 u6 hu6 u7 hu7 u8 hu8 u9 hu9 u10 hu10 u11 hu11 u12 hu12 u13 hu13
  obtain rfl : u13 = _ := hu13
  clear hu0 hu1 hu2 hu3 hu4 hu5 hu6 hu7 hu8 hu9 hu10 hu11 hu12
  replace HR_v := Lib.hid (HR_v.out.ext hbz)
  replace HW := Lib.hid (ext_trans HW.out hbz)
  clear c_v_0 c_v_1 c_v_2 c_v_3 c_v_4 c_v_5 c_v_6 c_v_7
  clear hbz
  show wpList _ _ _ _ _ _
  simp only [Act.put, zz5, zz6, zz7]
  obtain ⟨sz, hsz⟩ : ∃ z, t0 ++ (⟨#[32, 111, 117, 116, 99, 111, 109, 101, 32]⟩ : ByteArray) ++ ke ++ (⟨#[32]⟩ : ByteArray) ++ na ++ (⟨#[32]⟩ : ByteArray) ++ sx = z := ⟨_, rfl⟩
  rw [hsz]
  have HS := Lib.hid hsz
  clear hsz
  go_wp2
  exact bodyPost_ret (v := .string sz) (by simp [results, Tryz.results12, go_sem]) rfl ⟨by rw [← HS.out, HN.out], HW.out⟩
end Tx
end Go.Proofs.YtbgbfjfboaajbaaGreatDoor
namespace Go.Proofs.YtbgbfjfboaajbaaGreatDoor
open Go.RowKit
theorem bld_info : ∃ j, Tryz.prog.info? 36 = some j ∧ j.size = 2 :=
  Option.map_eq_some_iff.1 (show (Tryz.prog.info? 36).map (·.size) = some 2 by kernel_rfl)
theorem bld_lies : liesAt Tryz.prog Tryz.prog.depth 36 (2 / Tryz.prog.cellsOf 36) 0 36 1 = true := by kernel_rfl
theorem byte_info : (Tryz.prog.info? 5).map (fun i => (i.zero, i.size, i.bytes)) = some (some (.int .u8 0), 1, 1) := by kernel_rfl
set_option maxHeartbeats 1000000 in
set_option maxRecDepth 100000 in
theorem bld_check_used (b : Nat) (w : World) (h0 : w.cell? ⟨b, 0, none⟩ = some (.pointer (some ⟨b, 0, none⟩))) :
    Calls Tryz.prog 27 #[.pointer (some ⟨b, 0, none⟩)] w fun e w' => e = .returned (.tuple #[]) ∧ w' = w := by
  obtain ⟨j, hj, _⟩ := bld_info
  go_enter Tryz.func27, Tryz.ntmps27
  go_wp2
  rw [Lib.run_neq_ptr_same w _ Tryz.underlying33 hj]
  go_wp2
  go_end0
  exact ⟨rfl, rfl⟩
set_option maxHeartbeats 1000000 in
set_option maxRecDepth 100000 in
theorem bld_check_fresh (b : Nat) (w : World) (h0 : w.cell? ⟨b, 0, none⟩ = some (.pointer none)) (hsh : w.shape? b = some (36, 2)) (hfz : w.frozen? ⟨b, 0, none⟩ = false) :
    Calls Tryz.prog 27 #[.pointer (some ⟨b, 0, none⟩)] w fun e w' => e = .returned (.tuple #[]) ∧ w' = w.setCell ⟨b, 0, none⟩ (.pointer (some ⟨b, 0, none⟩)) := by
  obtain ⟨j, hj, hjs⟩ := bld_info
  go_enter Tryz.func27, Tryz.ntmps27
  go_wp2
  rw [Lib.run_to_unsafe w ⟨b, 0, none⟩ Tryz.underlying33 Tryz.underlying74 hj (by rw [hjs]; decide) hsh (Nat.zero_lt_succ 1)]
  simp only [Result.andThen]
  rw [Oper.upon_value]
  go_wp2
  rw [run_callFunc_extern Tryz.func50 (by kernel_rfl) (by kernel_rfl) (by kernel_rfl) (e := Extern.AbiNoEscape.same) (by kernel_rfl)]
  rw [Lib.run_noEscape]
  simp only [Result.andThen]
  rw [Oper.upon_value]
  go_wp2
  rw [Lib.run_from_unsafe w ⟨b, 0, none⟩ Tryz.underlying74 Tryz.underlying33 hj hsh bld_lies]
  simp only [Result.andThen]
  rw [Oper.upon_value]
  go_wp2
  go_end0
  exact ⟨rfl, rfl⟩
theorem bld_check (B b : Nat) (bs : List Value) (w : World) (h : Lib.IsBuilder 36 5 B b bs w) :
    Calls Tryz.prog 27 #[.pointer (some ⟨b, 0, none⟩)] w fun e w' => e = .returned (.tuple #[]) ∧ (Lib.BuilderAt 36 5 B b (.pointer (some ⟨b, 0, none⟩)) bs w' ∧ Below B w w') := by
  rcases h with h | h
  · refine (bld_check_fresh b w h.cell0 h.shape h.frozen0).mono ?_
    rintro e w' ⟨rfl, rfl⟩
    exact ⟨rfl, h.used _, (Below.refl B w).setCell (p := ⟨b, 0, none⟩) h.1 _⟩
  · refine (bld_check_used b w h.cell0).mono ?_
    rintro e w' ⟨rfl, rfl⟩
    exact ⟨rfl, h, Below.refl B _⟩
set_option maxHeartbeats 2000000 in
set_option maxRecDepth 100000 in
/-- WriteString, under Go's own limit -/
theorem bld_write (B b : Nat) (bs : List Value) (s : ByteArray) (w : World) (h : Lib.IsBuilder 36 5 B b bs w) (hlen : bs.length + s.size ≤ 140737488355328) (hBw : B ≤ w.heap.size) :
    Calls Tryz.prog 11 #[.pointer (some ⟨b, 0, none⟩), .string s] w fun e w' => e = .returned (.tuple #[.int .i64 s.size, .nilIface]) ∧ (Lib.IsBuilder 36 5 B b (bs ++ Lib.strCells s) w' ∧ Below B w w') := by
  obtain ⟨i0, hi, hz0, hz1, hz2⟩ := info_parts byte_info
  go_enter Tryz.func11, Tryz.ntmps11
  go_wp2_with (go_at_call 27; refine (bld_check B b bs _ h).mono ?_)
  rintro e w1 ⟨rfl, h1, hb1⟩
  obtain ⟨hB, v, hbk, hown, hne⟩ := h1
  have c0 : w1.cell? ⟨b, 0, none⟩ = some (.pointer (some ⟨b, 0, none⟩)) := by rw [Lib.cell_of_heap hbk]; rfl
  have c1 : w1.cell? ⟨b, 1, none⟩ = some v := by rw [Lib.cell_of_heap hbk]; rfl
  go_wp2_with (at_builtin; refine Lib.wpList_append_own_string _ rfl _ _ 34 9 rfl B 5 i0 Tryz.underlying34 Tryz.underlying9 hi hz0 hz1 hz2 _ _ _ rfl hown s rfl ?c3 ?c4 ?c5 ?_)
  case c3 => unfold maxLen; omega
  case c4 => omega
  case c5 => have := hb1.size; omega
  intro v' w2 hown' hgrow _
  have hlt : b < w1.heap.size := by
    rcases Nat.lt_or_ge b w1.heap.size with h' | h'
    · exact h'
    · simp [Array.getElem?_eq_none h'] at hbk
  have hb2 : w2.heap[b]? = some (.cells #[.pointer (some ⟨b, 0, none⟩), v] 36 (0, 0)) := by
    rw [hgrow.block b hlt (fun e => hne e.symm)]
    exact hbk
  have d0 : w2.cell? ⟨b, 0, none⟩ = some (.pointer (some ⟨b, 0, none⟩)) := by rw [Lib.cell_of_heap hb2]; rfl
  have d1 : w2.cell? ⟨b, 1, none⟩ = some v := by rw [Lib.cell_of_heap hb2]; rfl
  have f1 : w2.frozen? ⟨b, 1, none⟩ = false := Lib.frozen_of_heap hb2 1
  obtain ⟨ao, n', cap, rfl⟩ : ∃ ao n' cap, v' = .slice ao n' cap := by
    rcases hown'.2 with ⟨hv, _⟩ | ⟨g, cap, cur, hv, _⟩
    · exact ⟨_, _, _, hv⟩
    · exact ⟨_, _, _, hv⟩
  go_wp2
  go_ret2
  refine ⟨rfl, .inr ?_, ?_⟩
  · exact Lib.BuilderAt.put (T := 36) (e := 5) hB hb2 (bs' := bs ++ Lib.strCells s) (by simpa [Lib.strCells_length] using hown') (by decide)
  · exact (hb1.grown hgrow (by have := hb1.size; omega) (fun k hk => (hown.lt k hk).1)).setCell (p := ⟨b, 1, none⟩) hB _
end Go.Proofs.YtbgbfjfboaajbaaGreatDoor
