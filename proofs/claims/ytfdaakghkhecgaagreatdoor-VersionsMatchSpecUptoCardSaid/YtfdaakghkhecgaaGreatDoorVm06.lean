/- showVersion, ShowVersion of package value and of the reference; CheckVersion of the reference. Printed by gen_vread.py. showVersion, ShowVersion of package value and of the reference; CheckVersion of the reference. Printed by gen_vread.py. -/
import Derived.Test.YtfdaakghkhecgaaGreatDoorVm04
import Derived.Test.YtfdaakghkhecgaaGreatDoorVm05
namespace Go.Proofs.YtfdaakghkhecgaaGreatDoor
open Go.RowKit
namespace Tx
open _root_.Go.Proofs.YtfdaakghkhecgaaGreatDoor.Nm
open _root_.Go.Proofs.YtfdaakghkhecgaaGreatDoor.Nt (RH RH.cell RH.box RH.lt RH.new RH.ext RH.fre RH.set RH.other)
theorem stB_app (l r : List UInt8) : stB l ++ stB r = stB (l ++ r) := by
 apply ByteArray.ext
 simp [stB]
theorem dot_is (c : UInt8) : (⟨#[c]⟩ : ByteArray) = stB [c] := rfl
theorem three_is (a b c : List UInt8) : stB a ++ ⟨#[46]⟩ ++ stB b ++ ⟨#[46]⟩ ++ stB c = stB (a ++ 46 :: (b ++ 46 :: c)) := by
 rw [dot_is, stB_app, stB_app, stB_app, stB_app]
 congr 1
 simp
theorem pre_is (t q : List UInt8) : stB t ++ (⟨#[45]⟩ ++ stB q) = stB (t ++ 45 :: q) := by
 rw [dot_is, stB_app, stB_app]; rfl
theorem join_at (l : List ByteArray) (a : Option Addr) (c : Nat) (w : World) (h : SlS w a l c) (hne : l ≠ []) (hl : l.length ≤ 10) (hz : ∀ s ∈ l, s.size ≤ 20) :
  Calls Tryz.prog 32 #[.slice a l.length c, .string ⟨#[46]⟩] w fun e w' => e = .returned (.string (stB (joinL 46 (l.map (·.data.toList))))) ∧ Below w.heap.size w w' := by
 obtain ⟨x, r, rfl⟩ : ∃ x r, l = x :: r := by
  cases l with
  | nil => exact absurd rfl hne
  | cons x r => exact ⟨x, r, rfl⟩
 obtain ⟨a', cap, hv, h1, h2, h0, h3⟩ := h
 injection hv with e1 e2 e3
 subst e1; subst e3
 obtain ⟨b, o, rfl, hc0⟩ := h3 0 (.string x) rfl
 have hlen : (joinL 46 ((x :: r).map (·.data.toList))).length ≤ 10 * 21 := by
  refine Nat.le_trans (joinL_len (k := 20) fun y hy => ?_) ?_
  ·obtain ⟨s, hs, rfl⟩ := List.mem_map.1 hy
   have := hz s hs
   rw [show s.data.toList.length = s.size from Array.length_toList]; exact this
  ·rw [List.length_map]; exact Nat.mul_le_mul_right _ hl
 have hj : Lib.join ((x :: r).map (·.data.toList)) (⟨#[46]⟩ : ByteArray).data.toList = joinL 46 ((x :: r).map (·.data.toList)) := join_is 46 _
 refine (Tryz.strings_Join b o c (x :: r) ⟨#[46]⟩ w (fun j y hy => ?_) (World.block_lt_of_cell? _ _ hc0) (by omega) h1 (by rw [hj]; omega)).mono ?_
 ·obtain ⟨b', o', eb, hc⟩ := h3 j (.string y) (by simp only [strs, List.getElem?_map, hy]; rfl)
  cases eb
  exact hc
 ·rintro e w' ⟨rfl, hb⟩
  rw [hj]
  exact ⟨rfl, hb⟩
theorem pre_small {s : ByteArray} (h : preOk s = true) : s.size ≤ 20 := by
 unfold preOk at h
 simp only [Bool.and_eq_true, decide_eq_true_eq] at h
 exact h.1.1
def shS (x : Ver) : ByteArray := if chkVer x = 0 then stB (verT x) else ⟨#[]⟩
theorem chk_ok {x : Ver} (h : chkVer x = 0) : ∃ a b c : Nat, (a ≤ 999999 ∧ b ≤ 999999 ∧ c ≤ 999999) ∧ x = ⟨(a : Int), (b : Int), (c : Int), x.pre⟩ ∧ x.pre.length ≤ 10 ∧ ∀ s ∈ x.pre, s.size ≤ 20 := by
 obtain ⟨h1, h2, h3, h4, h5⟩ := chk_num h
 obtain ⟨ma, mi, pa, pre⟩ := x
 simp only at h1 h2 h3 h4 h5
 refine ⟨ma.toNat, mi.toNat, pa.toNat, ⟨by omega, by omega, by omega⟩, ?_, h4, fun s hs => pre_small (List.all_eq_true.1 h5 s hs)⟩
 simp only [Ver.mk.injEq, and_true]
 omega
theorem verT_is (a b c : Nat) (pre : List ByteArray) : stB (verT ⟨(a : Int), (b : Int), (c : Int), pre⟩) = if pre = [] then stB (decS a ++ 46 :: (decS b ++ 46 :: decS c)) else stB ((decS a ++ 46 :: (decS b ++ 46 :: decS c)) ++ 45 :: joinL 46 (pre.map (·.data.toList))) := by
 unfold verT preT
 simp only [Int.toNat_natCast]
 by_cases h : pre = []
 ·rw [if_pos h, if_pos h, List.append_nil]
 ·rw [if_neg h, if_neg h]
set_option maxRecDepth 100000 in
set_option maxHeartbeats 16000000 in
theorem showVer_at (a b c : Nat) (pre : List ByteArray) (ad : Option Addr) (cp : Nat) (hn : a ≤ 999999 ∧ b ≤ 999999 ∧ c ≤ 999999) (w : World) (hs : SlS w ad pre cp) (hz : pre.length ≤ 10 ∧ ∀ s ∈ pre, s.size ≤ 20) (ht : Tb w) : Calls Tryz.prog 13 #[.agg #[.int .i64 (a : Int), .int .i64 (b : Int), .int .i64 (c : Int), .slice ad pre.length cp]] w fun e w' => e = .returned (.string (stB (verT ⟨(a : Int), (b : Int), (c : Int), pre⟩))) ∧ Below w.heap.size w w' := by
 have HT0 := Lib.hid ht
 have HVT := Lib.hid (verT_is a b c pre)
 have HZ := Lib.hid hz
 have HSL := Lib.hid hs
 clear ht hz hs
 go_enter Tryz.func13, Tryz.ntmps13
 go_upto_region 1 with (fail)
 refine wp_vr1 fun w1' hbz hR0 => ?_
 have HR_v : Hid (RH w1' w.heap.size #[.int .i64 ((a : Int)), .int .i64 ((b : Int)), .int .i64 ((c : Int)), .slice ad pre.length cp] 24) := Lib.hid hR0
 have HW := Lib.hid hbz
 clear hbz hR0
 have HSP : Hid (SlS w1' ad pre cp) := Lib.hid (HSL.out.ext HW.out)
 clear HSL
 obtain ⟨sa, hsa⟩ : ∃ z, stB (decS a) = z := ⟨_, rfl⟩
 have HIa := Lib.hid (fun W9 t9 => (by have h9 := itoa_at a (by omega) W9 t9; rw [hsa] at h9; exact h9 : Calls Tryz.prog 31 #[.int .i64 (a : Int)] W9 fun e w' => e = .returned (.string sa) ∧ Below W9.heap.size W9 w'))
 obtain ⟨sb, hsb⟩ : ∃ z, stB (decS b) = z := ⟨_, rfl⟩
 have HIb := Lib.hid (fun W9 t9 => (by have h9 := itoa_at b (by omega) W9 t9; rw [hsb] at h9; exact h9 : Calls Tryz.prog 31 #[.int .i64 (b : Int)] W9 fun e w' => e = .returned (.string sb) ∧ Below W9.heap.size W9 w'))
 obtain ⟨sc, hsc⟩ : ∃ z, stB (decS c) = z := ⟨_, rfl⟩
 have HIc := Lib.hid (fun W9 t9 => (by have h9 := itoa_at c (by omega) W9 t9; rw [hsc] at h9; exact h9 : Calls Tryz.prog 31 #[.int .i64 (c : Int)] W9 fun e w' => e = .returned (.string sc) ∧ Below W9.heap.size W9 w'))
 have hza : sa.size ≤ 6 := by rw [← hsa, stB_size]; exact decS_length (by omega) (by decide)
 have hzb : sb.size ≤ 6 := by rw [← hsb, stB_size]; exact decS_length (by omega) (by decide)
 have hzc : sc.size ≤ 6 := by rw [← hsc, stB_size]; exact decS_length (by omega) (by decide)
 have HTT := Lib.hid (by rw [← hsa, ← hsb, ← hsc]; exact three_is (decS a) (decS b) (decS c) : sa ++ ⟨#[46]⟩ ++ sb ++ ⟨#[46]⟩ ++ sc = stB (decS a ++ 46 :: (decS b ++ 46 :: decS c)))
 clear hsa hsb hsc
 obtain ⟨c_v_0, c_v_1, c_v_2, c_v_3⟩ := zs4 HR_v.out
 refine Grow.wp_region_grow 13 [TP.eq (.pointer (some ⟨w.heap.size, 0, none⟩)), TP.eq (.int .i64 ((a : Int))), TP.eq (.string sa), TP.eq (.string (sa ++ ⟨#[46]⟩)), TP.eq (.pointer (some ⟨w.heap.size, 1, none⟩)), TP.eq (.int .i64 ((b : Int))), TP.eq (.string sb), TP.eq (.string (sa ++ ⟨#[46]⟩ ++ sb)), TP.eq (.string (sa ++ ⟨#[46]⟩ ++ sb ++ ⟨#[46]⟩)), TP.eq (.pointer (some ⟨w.heap.size, 2, none⟩)), TP.eq (.int .i64 ((c : Int))), TP.eq (.string sc), TP.eq (.string (sa ++ ⟨#[46]⟩ ++ sb ++ ⟨#[46]⟩ ++ sc))] [[], [0], [1], [2], [], [4], [5], [3, 6], [7], [], [9], [10], [8, 11]] (by kernel_rfl) (by kernel_rfl) ⟨?o0g, ?o1g, ?o2g, ?o3g, ?o4g, ?o5g, ?o6g, ?o7g, ?o8g, ?o9g, ?o10g, ?o11g, ?o12g, trivial⟩ ?_
 case o0g | o4g | o9g =>
  intro w' hb
  show wpList _ _ _ _ _ _
  go_wp2
  exact ⟨rfl, Below.refl _ _, rfl⟩
 case o1g =>
  intro w' hb v1 hv1
  obtain rfl : v1 = _ := hv1
  have c_v_0' := zzc hb c_v_0
  show wpList _ _ _ _ _ _
  simp only [Grow.dstOf, zz1, zz3, zz4, Act.put, zz5, zz6, zz7]
  go_wp2
  exact ⟨rfl, Below.refl _ _, rfl⟩
 case o2g =>
  intro w' hb v1 hv1
  obtain rfl : v1 = _ := hv1
  show wpList _ _ _ _ _ _
  simp only [Grow.dstOf, zz1, zz2, zz3, zz4, Act.put, zz5, zz6, zz7]
  go_wp2_with fail
  refine (HIa.out w' (HT0.out.ext (ext_trans HW.out hb))).mono ?_
  rintro e wz ⟨rfl, hbz⟩
  go_wp2
  exact ⟨rfl, hbz, rfl⟩
 case o3g | o8g =>
  intro w' hb v1 hv1
  obtain rfl : v1 = _ := hv1
  show wpList _ _ _ _ _ _
  simp only [Grow.dstOf, zz1, zz2, zz3, zz4, Act.put, zz5, zz6, zz7]
  go_wp2
  exact ⟨rfl, Below.refl _ _, rfl⟩
 case o5g | o10g =>
  intro w' hb v1 hv1
  obtain rfl : v1 = _ := hv1
  have c_v_1' := zzc hb c_v_1
  have c_v_2' := zzc hb c_v_2
  show wpList _ _ _ _ _ _
  simp only [Grow.dstOf, zz1, zz2, zz3, zz4, Act.put, zz5, zz6, zz7]
  go_wp2
  exact ⟨rfl, Below.refl _ _, rfl⟩
 case o6g =>
  intro w' hb v1 hv1
  obtain rfl : v1 = _ := hv1
  show wpList _ _ _ _ _ _
  simp only [Grow.dstOf, zz1, zz2, zz3, zz4, Act.put, zz5, zz6, zz7]
  go_wp2_with fail
  refine (HIb.out w' (HT0.out.ext (ext_trans HW.out hb))).mono ?_
  rintro e wz ⟨rfl, hbz⟩
  go_wp2
  exact ⟨rfl, hbz, rfl⟩
 case o7g | o12g =>
  intro w' hb v1 hv1 v2 hv2
  obtain rfl : v1 = _ := hv1
  obtain rfl : v2 = _ := hv2
  show wpList _ _ _ _ _ _
  simp only [Grow.dstOf, zz1, zz2, zz3, zz4, Act.put, zz5, zz6, zz7]
  go_wp2
  exact ⟨rfl, Below.refl _ _, rfl⟩
 case o11g =>
  intro w' hb v1 hv1
  obtain rfl : v1 = _ := hv1
  show wpList _ _ _ _ _ _
  simp only [Grow.dstOf, zz1, zz2, zz3, zz4, Act.put, zz5, zz6, zz7]
  go_wp2_with fail
  refine (HIc.out w' (HT0.out.ext (ext_trans HW.out hb))).mono ?_
  rintro e wz ⟨rfl, hbz⟩
  go_wp2
  exact ⟨rfl, hbz, rfl⟩
 intro w2' hbz u0 hu0 u1 hu1 u2 hu2 u3 hu3 u4 hu4 u5 hu5 u6 hu6 u7 hu7 u8 hu8 u9 hu9 u10 hu10 u11 hu11 u12 hu12
 obtain rfl : u12 = _ := hu12
 clear hu0 hu1 hu2 hu3 hu4 hu5 hu6 hu7 hu8 hu9 hu10 hu11
 replace HR_v := Lib.hid (HR_v.out.ext hbz)
 replace HSP := Lib.hid (HSP.out.ext hbz)
 replace HW := Lib.hid (ext_trans HW.out hbz)
 clear c_v_0 c_v_1 c_v_2 c_v_3
 clear hbz
 show wpList _ _ _ _ _ _
 simp only [Act.put, zz5, zz6, zz7]
 rw [HTT.out]
 obtain ⟨t, ht⟩ : ∃ z, decS a ++ 46 :: (decS b ++ 46 :: decS c) = z := ⟨_, rfl⟩
 have hzt : (stB t).size ≤ 20 := by
  have l1 := decS_length (x := a) (k := 6) (by omega) (by decide)
  have l2 := decS_length (x := b) (k := 6) (by omega) (by decide)
  have l3 := decS_length (x := c) (k := 6) (by omega) (by decide)
  rw [stB_size, ← ht, List.length_append, List.length_cons, List.length_append, List.length_cons]; omega
 rw [ht] at HVT ⊢
 clear ht HTT HIa HIb HIc hza hzb hzc
 obtain ⟨c_v_0, c_v_1, c_v_2, c_v_3⟩ := zs4 HR_v.out
 by_cases hp : pre = []
 ·have HN := Lib.hid (HVT.out.trans (if_pos hp))
  have hl0 : ¬ (0 : Int) < (pre.length : Int) := by rw [hp]; decide
  clear hp HVT
  go_wp2
  exact bodyPost_ret (v := .string (stB t)) (by simp [results, Tryz.results13, go_sem]) rfl ⟨by rw [HN.out], HW.out⟩
 ·have HN := Lib.hid (HVT.out.trans (if_neg hp))
  have HP := Lib.hid hp
  have hl0 : (0 : Int) < (pre.length : Int) := by have := List.length_pos_iff.2 hp; omega
  clear hp HVT
  go_wp2_with fail
  refine (join_at pre ad cp w2' HSP.out HP.out HZ.out.1 HZ.out.2).mono ?_
  rintro e w3' ⟨rfl, hbz⟩
  obtain ⟨jl, hj⟩ : ∃ z, joinL 46 (pre.map (·.data.toList)) = z := ⟨_, rfl⟩
  rw [hj] at HN ⊢
  have HPI := Lib.hid (pre_is t jl)
  have hzj : (stB jl).size ≤ 210 := by
   rw [stB_size, ← hj]
   refine Nat.le_trans (joinL_len (k := 20) fun y hy => ?_) ?_
   ·obtain ⟨s, hs, rfl⟩ := List.mem_map.1 hy
    have := HZ.out.2 s hs
    rw [show s.data.toList.length = s.size from Array.length_toList]; exact this
   ·rw [List.length_map]; exact Nat.mul_le_mul_right _ HZ.out.1
  clear hj
  replace HR_v := Lib.hid (HR_v.out.ext hbz)
  replace HSP := Lib.hid (HSP.out.ext hbz)
  replace HW := Lib.hid (ext_trans HW.out hbz)
  clear c_v_0 c_v_1 c_v_2 c_v_3
  clear hbz
  go_wp2
  exact bodyPost_ret (v := .string (stB t ++ (⟨#[45]⟩ ++ stB jl))) (by simp [results, Tryz.results13, go_sem]) rfl ⟨by rw [HN.out, ← HPI.out], HW.out⟩
set_option maxRecDepth 100000 in
set_option maxHeartbeats 16000000 in
theorem showVersion_at (x : Ver) (cs : List Value) (w : World) (h : RepVer w x cs) (ht : Tb w) : Calls Tryz.prog 4 #[.agg cs.toArray] w fun e w' => e = .returned (.tuple #[.string (shS x), .int .i64 (chkVer x)]) ∧ Below w.heap.size w w' := by
 obtain ⟨ad, cp, rfl, s1, hz⟩ := h
 have HT0 := Lib.hid ht
 have HR := Lib.hid (show RepVer w x _ from ⟨ad, cp, rfl, s1, hz⟩)
 clear ht s1 hz
 obtain ⟨f, hf⟩ : ∃ z, chkVer x = z := ⟨_, rfl⟩
 have HF := Lib.hid hf
 clear hf
 go_enter Tryz.func4, Tryz.ntmps4
 go_upto_region 1 with (fail)
 refine wp_vr1 fun w1' hbz hR0 => ?_
 have HR_v : Hid (RH w1' w.heap.size #[.int .i64 (x.ma), .int .i64 (x.mi), .int .i64 (x.pa), .slice ad x.pre.length cp] 24) := Lib.hid hR0
 have HW := Lib.hid hbz
 clear hbz hR0
 obtain ⟨c_v_0, c_v_1, c_v_2, c_v_3⟩ := zs4 HR_v.out
 go_wp2_with fail
 refine (checkVersion_at x _ w1' (HR.out.ext HW.out)).mono ?_
 rintro e w2' ⟨rfl, hbz⟩
 rw [HF.out]
 replace HR_v := Lib.hid (HR_v.out.ext hbz)
 replace HW := Lib.hid (ext_trans HW.out hbz)
 clear c_v_0 c_v_1 c_v_2 c_v_3
 clear hbz
 by_cases h0 : f = 0
 ·subst h0
  have HN : Hid (stB (verT x) = shS x) := Lib.hid (by unfold shS; rw [if_pos HF.out])
  have HSH : Hid (∀ W9, Tb W9 → RepVer W9 x [.int .i64 x.ma, .int .i64 x.mi, .int .i64 x.pa, .slice ad x.pre.length cp] → Calls Tryz.prog 13 #[.agg #[.int .i64 x.ma, .int .i64 x.mi, .int .i64 x.pa, .slice ad x.pre.length cp]] W9 fun e w' => e = .returned (.string (stB (verT x))) ∧ Below W9.heap.size W9 w') := Lib.hid (by
   intro W9 t9 r9
   obtain ⟨a, b, c, h1, h2, h3, h4⟩ := chk_ok HF.out
   obtain ⟨ad', cp', e9, s9, _⟩ := r9
   generalize x.pre = pre at *
   subst h2
   simp only [List.cons.injEq, Value.slice.injEq, and_true, true_and] at e9
   obtain ⟨rfl, rfl⟩ := e9
   exact showVer_at a b c pre ad cp h1 W9 s9 ⟨h3, h4⟩ t9)
  obtain ⟨st, hst⟩ : ∃ z, stB (verT x) = z := ⟨_, rfl⟩
  rw [hst] at HN HSH
  clear hst
  obtain ⟨c_v_0, c_v_1, c_v_2, c_v_3⟩ := zs4 HR_v.out
  go_wp2_with fail
  refine (HSH.out w2' (HT0.out.ext HW.out) (HR.out.ext HW.out)).mono ?_
  rintro e w3' ⟨rfl, hbz⟩
  replace HR_v := Lib.hid (HR_v.out.ext hbz)
  replace HW := Lib.hid (ext_trans HW.out hbz)
  clear c_v_0 c_v_1 c_v_2 c_v_3
  clear hbz
  go_wp2
  exact bodyPost_ret (v := .tuple #[.string st, .int .i64 0]) (by simp [results, Tryz.results4, go_sem]) rfl ⟨by rw [← HN.out, HF.out], HW.out⟩
 ·have HN : Hid (⟨#[]⟩ = shS x) := Lib.hid (by unfold shS; rw [if_neg (by rw [HF.out]; exact h0)])
  have hne : (f != 0) = true := by simpa using h0
  clear h0
  go_wp2
  exact bodyPost_ret (v := .tuple #[.string ⟨#[]⟩, .int .i64 f]) (by simp [results, Tryz.results4, go_sem]) rfl ⟨by rw [← HN.out, HF.out], HW.out⟩
end Tx
end Go.Proofs.YtfdaakghkhecgaaGreatDoor
namespace Go.Proofs.YtfdaakghkhecgaaGreatDoor
open Go.RowKit
namespace Tx
open _root_.Go.Proofs.YtfdaakghkhecgaaGreatDoor.Nm
open _root_.Go.Proofs.YtfdaakghkhecgaaGreatDoor.Nt (RH RH.cell RH.box RH.lt RH.new RH.ext RH.fre RH.set RH.other)
set_option maxRecDepth 100000 in
set_option maxHeartbeats 16000000 in
theorem refCheckVersion_at (x : Ver) (cs : List Value) (w : World) (h : RepVer w x cs) : Calls Tryz.prog 9 #[.agg cs.toArray] w fun e w' => e = .returned (.int .i64 (chkVer x)) ∧ Below w.heap.size w w' := by
 obtain ⟨ad, cp, rfl, s1, h1⟩ := h
 obtain ⟨ma, mi, pa, pre⟩ := x
 simp only at s1 h1
 have HZ := Lib.hid h1
 have HSL : Hid (SlS w ad pre cp) := Lib.hid s1
 have hp63 := s1.len63
 clear s1 h1
 go_enter Tryz.func9, Tryz.ntmps9
 go_upto_region 1 with (fail)
 refine wp_vr1 fun w1' hbz hR0 => ?_
 have HR_v : Hid (RH w1' w.heap.size #[.int .i64 (ma), .int .i64 (mi), .int .i64 (pa), .slice ad pre.length cp] 24) := Lib.hid hR0
 have HW := Lib.hid hbz
 clear hbz hR0
 have HSP : Hid (SlS w1' ad pre cp) := Lib.hid (HSL.out.ext HW.out)
 clear HSL
 obtain ⟨c_v_0, c_v_1, c_v_2, c_v_3⟩ := zs4 HR_v.out
 by_cases hA : withinV ma 0 999999 = true
 ·have HA := Lib.hid hA
  clear hA
  go_wp2_with fail
  refine (refWithin_is ma 0 999999 true HA.out _).mono ?_
  rintro e w9 ⟨rfl, hw9⟩
  subst hw9
  by_cases hB : withinV mi 0 999999 = true
  ·have HB := Lib.hid hB
   clear hB
   go_wp2_with fail
   refine (refWithin_is mi 0 999999 true HB.out _).mono ?_
   rintro e w9 ⟨rfl, hw9⟩
   subst hw9
   by_cases hC : withinV pa 0 999999 = true
   ·have HC := Lib.hid hC
    clear hC
    go_wp2_with fail
    refine (refWithin_is pa 0 999999 true HC.out _).mono ?_
    rintro e w9 ⟨rfl, hw9⟩
    subst hw9
    have HG : Hid (chkVer ⟨ma, mi, pa, pre⟩ = if 10 < pre.length then 2 else if pre.all preOk = true then 0 else 3) := Lib.hid (rng_good (by unfold rngOk; simp only; rw [HA.out, HB.out, HC.out]; rfl))
    clear HA HB HC
    by_cases h10 : 10 < pre.length
    ·have HN := Lib.hid (HG.out.trans (if_pos h10))
     have h10' : (10 : Int) < (pre.length : Int) := by omega
     clear h10 HG
     go_wp2
     exact bodyPost_ret (v := .int .i64 2) (by simp [results, Tryz.results9, go_sem]) rfl ⟨by rw [HN.out], HW.out⟩
    ·have HG2 := Lib.hid (HG.out.trans (if_neg h10))
     have h10' : ¬ (10 : Int) < (pre.length : Int) := by omega
     clear h10 HG
     go_wp2
     go_loopw [30] (fun i wr => ∃ k : Nat, k ≤ pre.length ∧ i = .int .i64 (k : Int) ∧ Hid ((pre.take k).all preOk = true) ∧ (RH wr w.heap.size #[.int .i64 (ma), .int .i64 (mi), .int .i64 (pa), .slice ad pre.length cp] 24) ∧ (SlS wr ad pre cp) ∧ (Below w.heap.size w wr)) (fun i _ => pre.length - (intOf i).toNat)
     case atStart => exact ⟨0, by omega, rfl, rfl, HR_v.out, HSP.out, HW.out⟩
     case round =>
      clear HR_v HSP HW
      obtain ⟨k, hk, rfl, HK, q_HR_v, q_HSP, q_HW⟩ := hrel
      have HR_v := Lib.hid q_HR_v
      have HSP := Lib.hid q_HSP
      have HW := Lib.hid q_HW
      clear q_HR_v q_HSP q_HW
      clear c_v_0 c_v_1 c_v_2 c_v_3
      generalize hX : wr = X at *
      clear hX
      by_cases hlt : k < pre.length
      ·obtain ⟨pb, po, rfl, e0⟩ := HSP.out.at hlt
       have husz : pre[k].size ≤ maxLen := HZ.out _ (List.getElem_mem hlt)
       have HT : Hid ((pre.take (k + 1)).all preOk = preOk pre[k]) := Lib.hid (by rw [List.take_succ_eq_append_getElem hlt, List.all_append, HK.out]; simp)
       have HF : Hid (preOk pre[k] = false → pre.all preOk = false) := Lib.hid (fun h => by rw [List.all_eq_false]; exact ⟨_, List.getElem_mem hlt, by simp [h]⟩)
       generalize pre[k] = u at *
       have hk0 : (0 : Int) ≤ (k : Int) := Int.natCast_nonneg _
       have hk1 : (k : Int) < (pre.length : Int) := by omega
       by_cases hok : preOk u = true
       ·have HO := Lib.hid hok
        clear hok
        go_wp2_with (go_at_call 24; refine (refIsPre_is u husz true HO.out _).mono ?_; rintro e w' ⟨rfl, rfl⟩)
        go_roundw
        case rel => exact ⟨k + 1, by omega, by go_num, Lib.hid (HT.out.trans HO.out), HR_v.out, HSP.out, HW.out⟩
        case measure => simp [intOf]; omega
       ·have hok' : preOk u = false := by simpa using hok
        have HO := Lib.hid hok'
        have HN := Lib.hid (HG2.out.trans (if_neg (by rw [HF.out hok']; decide)))
        clear hok hok'
        go_wp2_with (go_at_call 24; refine (refIsPre_is u husz false HO.out _).mono ?_; rintro e w' ⟨rfl, rfl⟩)
        exact bodyPost_ret (v := .int .i64 3) (by simp [results, Tryz.results9, go_sem]) rfl ⟨by rw [HN.out], HW.out⟩
      ·have HN : Hid (chkVer ⟨ma, mi, pa, pre⟩ = 0) := Lib.hid (HG2.out.trans (if_pos (by have h := HK.out; rw [List.take_of_length_le (by omega)] at h; exact h)))
       go_wp2
       exact bodyPost_ret (v := .int .i64 0) (by simp [results, Tryz.results9, go_sem]) rfl ⟨by rw [HN.out], HW.out⟩
   ·have hC' : withinV pa 0 999999 = false := by simpa using hC
    have HC := Lib.hid hC'
    have HN : Hid (chkVer ⟨ma, mi, pa, pre⟩ = 1) := Lib.hid (rng_bad (by unfold rngOk; simp [hC']))
    clear hC hC'
    go_wp2_with fail
    refine (refWithin_is pa 0 999999 false HC.out _).mono ?_
    rintro e w9 ⟨rfl, hw9⟩
    subst hw9
    -- out of range
    go_wp2
    exact bodyPost_ret (v := .int .i64 1) (by simp [results, Tryz.results9, go_sem]) rfl ⟨by rw [HN.out], HW.out⟩
  ·have hB' : withinV mi 0 999999 = false := by simpa using hB
   have HB := Lib.hid hB'
   have HN : Hid (chkVer ⟨ma, mi, pa, pre⟩ = 1) := Lib.hid (rng_bad (by unfold rngOk; simp [hB']))
   clear hB hB'
   go_wp2_with fail
   refine (refWithin_is mi 0 999999 false HB.out _).mono ?_
   rintro e w9 ⟨rfl, hw9⟩
   subst hw9
   -- out of range
   go_wp2
   exact bodyPost_ret (v := .int .i64 1) (by simp [results, Tryz.results9, go_sem]) rfl ⟨by rw [HN.out], HW.out⟩
 ·have hA' : withinV ma 0 999999 = false := by simpa using hA
  have HA := Lib.hid hA'
  have HN : Hid (chkVer ⟨ma, mi, pa, pre⟩ = 1) := Lib.hid (rng_bad (by unfold rngOk; simp [hA']))
  clear hA hA'
  go_wp2_with fail
  refine (refWithin_is ma 0 999999 false HA.out _).mono ?_
  rintro e w9 ⟨rfl, hw9⟩
  subst hw9
  -- out of range
  go_wp2
  exact bodyPost_ret (v := .int .i64 1) (by simp [results, Tryz.results9, go_sem]) rfl ⟨by rw [HN.out], HW.out⟩
set_option maxRecDepth 100000 in
set_option maxHeartbeats 16000000 in
theorem refText_at (a b c : Nat) (pre : List ByteArray) (ad : Option Addr) (cp : Nat) (hn : a ≤ 999999 ∧ b ≤ 999999 ∧ c ≤ 999999) (w : World) (hs : SlS w ad pre cp) (hz : pre.length ≤ 10 ∧ ∀ s ∈ pre, s.size ≤ 20) (ht : Tb w) : Calls Tryz.prog 14 #[.agg #[.int .i64 (a : Int), .int .i64 (b : Int), .int .i64 (c : Int), .slice ad pre.length cp]] w fun e w' => e = .returned (.string (stB (verT ⟨(a : Int), (b : Int), (c : Int), pre⟩))) ∧ Below w.heap.size w w' := by
 have HT0 := Lib.hid ht
 have HVT := Lib.hid (verT_is a b c pre)
 have HZ := Lib.hid hz
 have HSL := Lib.hid hs
 clear ht hz hs
 go_enter Tryz.func14, Tryz.ntmps14
 go_upto_region 1 with (fail)
 refine wp_vr1 fun w1' hbz hR0 => ?_
 have HR_v : Hid (RH w1' w.heap.size #[.int .i64 ((a : Int)), .int .i64 ((b : Int)), .int .i64 ((c : Int)), .slice ad pre.length cp] 24) := Lib.hid hR0
 have HW := Lib.hid hbz
 clear hbz hR0
 have HSP : Hid (SlS w1' ad pre cp) := Lib.hid (HSL.out.ext HW.out)
 clear HSL
 obtain ⟨sa, hsa⟩ : ∃ z, stB (decS a) = z := ⟨_, rfl⟩
 have HIa := Lib.hid (fun W9 t9 => (by have h9 := itoa_at a (by omega) W9 t9; rw [hsa] at h9; exact h9 : Calls Tryz.prog 31 #[.int .i64 (a : Int)] W9 fun e w' => e = .returned (.string sa) ∧ Below W9.heap.size W9 w'))
 obtain ⟨sb, hsb⟩ : ∃ z, stB (decS b) = z := ⟨_, rfl⟩
 have HIb := Lib.hid (fun W9 t9 => (by have h9 := itoa_at b (by omega) W9 t9; rw [hsb] at h9; exact h9 : Calls Tryz.prog 31 #[.int .i64 (b : Int)] W9 fun e w' => e = .returned (.string sb) ∧ Below W9.heap.size W9 w'))
 obtain ⟨sc, hsc⟩ : ∃ z, stB (decS c) = z := ⟨_, rfl⟩
 have HIc := Lib.hid (fun W9 t9 => (by have h9 := itoa_at c (by omega) W9 t9; rw [hsc] at h9; exact h9 : Calls Tryz.prog 31 #[.int .i64 (c : Int)] W9 fun e w' => e = .returned (.string sc) ∧ Below W9.heap.size W9 w'))
 have hza : sa.size ≤ 6 := by rw [← hsa, stB_size]; exact decS_length (by omega) (by decide)
 have hzb : sb.size ≤ 6 := by rw [← hsb, stB_size]; exact decS_length (by omega) (by decide)
 have hzc : sc.size ≤ 6 := by rw [← hsc, stB_size]; exact decS_length (by omega) (by decide)
 have HTT := Lib.hid (by rw [← hsa, ← hsb, ← hsc]; exact three_is (decS a) (decS b) (decS c) : sa ++ ⟨#[46]⟩ ++ sb ++ ⟨#[46]⟩ ++ sc = stB (decS a ++ 46 :: (decS b ++ 46 :: decS c)))
 clear hsa hsb hsc
 obtain ⟨c_v_0, c_v_1, c_v_2, c_v_3⟩ := zs4 HR_v.out
 refine Grow.wp_region_grow 13 [TP.eq (.pointer (some ⟨w.heap.size, 0, none⟩)), TP.eq (.int .i64 ((a : Int))), TP.eq (.string sa), TP.eq (.string (sa ++ ⟨#[46]⟩)), TP.eq (.pointer (some ⟨w.heap.size, 1, none⟩)), TP.eq (.int .i64 ((b : Int))), TP.eq (.string sb), TP.eq (.string (sa ++ ⟨#[46]⟩ ++ sb)), TP.eq (.string (sa ++ ⟨#[46]⟩ ++ sb ++ ⟨#[46]⟩)), TP.eq (.pointer (some ⟨w.heap.size, 2, none⟩)), TP.eq (.int .i64 ((c : Int))), TP.eq (.string sc), TP.eq (.string (sa ++ ⟨#[46]⟩ ++ sb ++ ⟨#[46]⟩ ++ sc))] [[], [0], [1], [2], [], [4], [5], [3, 6], [7], [], [9], [10], [8, 11]] (by kernel_rfl) (by kernel_rfl) ⟨?o0g, ?o1g, ?o2g, ?o3g, ?o4g, ?o5g, ?o6g, ?o7g, ?o8g, ?o9g, ?o10g, ?o11g, ?o12g, trivial⟩ ?_
 case o0g | o4g | o9g =>
  intro w' hb
  show wpList _ _ _ _ _ _
  go_wp2
  exact ⟨rfl, Below.refl _ _, rfl⟩
 case o1g =>
  intro w' hb v1 hv1
  obtain rfl : v1 = _ := hv1
  have c_v_0' := zzc hb c_v_0
  show wpList _ _ _ _ _ _
  simp only [Grow.dstOf, zz1, zz3, zz4, Act.put, zz5, zz6, zz7]
  go_wp2
  exact ⟨rfl, Below.refl _ _, rfl⟩
 case o2g =>
  intro w' hb v1 hv1
  obtain rfl : v1 = _ := hv1
  show wpList _ _ _ _ _ _
  simp only [Grow.dstOf, zz1, zz2, zz3, zz4, Act.put, zz5, zz6, zz7]
  go_wp2_with fail
  refine (HIa.out w' (HT0.out.ext (ext_trans HW.out hb))).mono ?_
  rintro e wz ⟨rfl, hbz⟩
  go_wp2
  exact ⟨rfl, hbz, rfl⟩
 case o3g | o8g =>
  intro w' hb v1 hv1
  obtain rfl : v1 = _ := hv1
  show wpList _ _ _ _ _ _
  simp only [Grow.dstOf, zz1, zz2, zz3, zz4, Act.put, zz5, zz6, zz7]
  go_wp2
  exact ⟨rfl, Below.refl _ _, rfl⟩
 case o5g | o10g =>
  intro w' hb v1 hv1
  obtain rfl : v1 = _ := hv1
  have c_v_1' := zzc hb c_v_1
  have c_v_2' := zzc hb c_v_2
  show wpList _ _ _ _ _ _
  simp only [Grow.dstOf, zz1, zz2, zz3, zz4, Act.put, zz5, zz6, zz7]
  go_wp2
  exact ⟨rfl, Below.refl _ _, rfl⟩
 case o6g =>
  intro w' hb v1 hv1
  obtain rfl : v1 = _ := hv1
  show wpList _ _ _ _ _ _
  simp only [Grow.dstOf, zz1, zz2, zz3, zz4, Act.put, zz5, zz6, zz7]
  go_wp2_with fail
  refine (HIb.out w' (HT0.out.ext (ext_trans HW.out hb))).mono ?_
  rintro e wz ⟨rfl, hbz⟩
  go_wp2
  exact ⟨rfl, hbz, rfl⟩
 case o7g | o12g =>
  intro w' hb v1 hv1 v2 hv2
  obtain rfl : v1 = _ := hv1
  obtain rfl : v2 = _ := hv2
  show wpList _ _ _ _ _ _
  simp only [Grow.dstOf, zz1, zz2, zz3, zz4, Act.put, zz5, zz6, zz7]
  go_wp2
  exact ⟨rfl, Below.refl _ _, rfl⟩
 case o11g =>
  intro w' hb v1 hv1
  obtain rfl : v1 = _ := hv1
  show wpList _ _ _ _ _ _
  simp only [Grow.dstOf, zz1, zz2, zz3, zz4, Act.put, zz5, zz6, zz7]
  go_wp2_with fail
  refine (HIc.out w' (HT0.out.ext (ext_trans HW.out hb))).mono ?_
  rintro e wz ⟨rfl, hbz⟩
  go_wp2
  exact ⟨rfl, hbz, rfl⟩
 intro w2' hbz u0 hu0 u1 hu1 u2 hu2 u3 hu3 u4 hu4 u5 hu5 u6 hu6 u7 hu7 u8 hu8 u9 hu9 u10 hu10 u11 hu11 u12 hu12
 obtain rfl : u12 = _ := hu12
 clear hu0 hu1 hu2 hu3 hu4 hu5 hu6 hu7 hu8 hu9 hu10 hu11
 replace HR_v := Lib.hid (HR_v.out.ext hbz)
 replace HSP := Lib.hid (HSP.out.ext hbz)
 replace HW := Lib.hid (ext_trans HW.out hbz)
 clear c_v_0 c_v_1 c_v_2 c_v_3
 clear hbz
 show wpList _ _ _ _ _ _
 simp only [Act.put, zz5, zz6, zz7]
 rw [HTT.out]
 obtain ⟨t, ht⟩ : ∃ z, decS a ++ 46 :: (decS b ++ 46 :: decS c) = z := ⟨_, rfl⟩
 have hzt : (stB t).size ≤ 20 := by
  have l1 := decS_length (x := a) (k := 6) (by omega) (by decide)
  have l2 := decS_length (x := b) (k := 6) (by omega) (by decide)
  have l3 := decS_length (x := c) (k := 6) (by omega) (by decide)
  rw [stB_size, ← ht, List.length_append, List.length_cons, List.length_append, List.length_cons]; omega
 rw [ht] at HVT ⊢
 clear ht HTT HIa HIb HIc hza hzb hzc
 obtain ⟨c_v_0, c_v_1, c_v_2, c_v_3⟩ := zs4 HR_v.out
 by_cases hp : pre = []
 ·have HN := Lib.hid (HVT.out.trans (if_pos hp))
  have hl0 : ¬ (0 : Int) < (pre.length : Int) := by rw [hp]; decide
  clear hp HVT
  go_wp2
  exact bodyPost_ret (v := .string (stB t)) (by simp [results, Tryz.results14, go_sem]) rfl ⟨by rw [HN.out], HW.out⟩
 ·have HN := Lib.hid (HVT.out.trans (if_neg hp))
  have HP := Lib.hid hp
  have hl0 : (0 : Int) < (pre.length : Int) := by have := List.length_pos_iff.2 hp; omega
  clear hp HVT
  go_wp2_with fail
  refine (join_at pre ad cp w2' HSP.out HP.out HZ.out.1 HZ.out.2).mono ?_
  rintro e w3' ⟨rfl, hbz⟩
  obtain ⟨jl, hj⟩ : ∃ z, joinL 46 (pre.map (·.data.toList)) = z := ⟨_, rfl⟩
  rw [hj] at HN ⊢
  have HPI := Lib.hid (pre_is t jl)
  have hzj : (stB jl).size ≤ 210 := by
   rw [stB_size, ← hj]
   refine Nat.le_trans (joinL_len (k := 20) fun y hy => ?_) ?_
   ·obtain ⟨s, hs, rfl⟩ := List.mem_map.1 hy
    have := HZ.out.2 s hs
    rw [show s.data.toList.length = s.size from Array.length_toList]; exact this
   ·rw [List.length_map]; exact Nat.mul_le_mul_right _ HZ.out.1
  clear hj
  replace HR_v := Lib.hid (HR_v.out.ext hbz)
  replace HSP := Lib.hid (HSP.out.ext hbz)
  replace HW := Lib.hid (ext_trans HW.out hbz)
  clear c_v_0 c_v_1 c_v_2 c_v_3
  clear hbz
  go_wp2
  exact bodyPost_ret (v := .string (stB t ++ (⟨#[45]⟩ ++ stB jl))) (by simp [results, Tryz.results14, go_sem]) rfl ⟨by rw [HN.out, ← HPI.out], HW.out⟩
set_option maxRecDepth 100000 in
set_option maxHeartbeats 16000000 in
theorem refShow_at (x : Ver) (cs : List Value) (w : World) (h : RepVer w x cs) (ht : Tb w) : Calls Tryz.prog 5 #[.agg cs.toArray] w fun e w' => e = .returned (.tuple #[.string (shS x), .int .i64 (chkVer x)]) ∧ Below w.heap.size w w' := by
 obtain ⟨ad, cp, rfl, s1, hz⟩ := h
 have HT0 := Lib.hid ht
 have HR := Lib.hid (show RepVer w x _ from ⟨ad, cp, rfl, s1, hz⟩)
 clear ht s1 hz
 obtain ⟨f, hf⟩ : ∃ z, chkVer x = z := ⟨_, rfl⟩
 have HF := Lib.hid hf
 clear hf
 go_enter Tryz.func5, Tryz.ntmps5
 go_upto_region 1 with (fail)
 refine wp_vr1 fun w1' hbz hR0 => ?_
 have HR_v : Hid (RH w1' w.heap.size #[.int .i64 (x.ma), .int .i64 (x.mi), .int .i64 (x.pa), .slice ad x.pre.length cp] 24) := Lib.hid hR0
 have HW := Lib.hid hbz
 clear hbz hR0
 obtain ⟨c_v_0, c_v_1, c_v_2, c_v_3⟩ := zs4 HR_v.out
 go_wp2_with fail
 refine (refCheckVersion_at x _ w1' (HR.out.ext HW.out)).mono ?_
 rintro e w2' ⟨rfl, hbz⟩
 rw [HF.out]
 replace HR_v := Lib.hid (HR_v.out.ext hbz)
 replace HW := Lib.hid (ext_trans HW.out hbz)
 clear c_v_0 c_v_1 c_v_2 c_v_3
 clear hbz
 by_cases h0 : f = 0
 ·subst h0
  have HN : Hid (stB (verT x) = shS x) := Lib.hid (by unfold shS; rw [if_pos HF.out])
  have HSH : Hid (∀ W9, Tb W9 → RepVer W9 x [.int .i64 x.ma, .int .i64 x.mi, .int .i64 x.pa, .slice ad x.pre.length cp] → Calls Tryz.prog 14 #[.agg #[.int .i64 x.ma, .int .i64 x.mi, .int .i64 x.pa, .slice ad x.pre.length cp]] W9 fun e w' => e = .returned (.string (stB (verT x))) ∧ Below W9.heap.size W9 w') := Lib.hid (by
   intro W9 t9 r9
   obtain ⟨a, b, c, h1, h2, h3, h4⟩ := chk_ok HF.out
   obtain ⟨ad', cp', e9, s9, _⟩ := r9
   generalize x.pre = pre at *
   subst h2
   simp only [List.cons.injEq, Value.slice.injEq, and_true, true_and] at e9
   obtain ⟨rfl, rfl⟩ := e9
   exact refText_at a b c pre ad cp h1 W9 s9 ⟨h3, h4⟩ t9)
  obtain ⟨st, hst⟩ : ∃ z, stB (verT x) = z := ⟨_, rfl⟩
  rw [hst] at HN HSH
  clear hst
  obtain ⟨c_v_0, c_v_1, c_v_2, c_v_3⟩ := zs4 HR_v.out
  go_wp2_with fail
  refine (HSH.out w2' (HT0.out.ext HW.out) (HR.out.ext HW.out)).mono ?_
  rintro e w3' ⟨rfl, hbz⟩
  replace HR_v := Lib.hid (HR_v.out.ext hbz)
  replace HW := Lib.hid (ext_trans HW.out hbz)
  clear c_v_0 c_v_1 c_v_2 c_v_3
  clear hbz
  go_wp2
  exact bodyPost_ret (v := .tuple #[.string st, .int .i64 0]) (by simp [results, Tryz.results5, go_sem]) rfl ⟨by rw [← HN.out, HF.out], HW.out⟩
 ·have HN : Hid (⟨#[]⟩ = shS x) := Lib.hid (by unfold shS; rw [if_neg (by rw [HF.out]; exact h0)])
  have hne : (f != 0) = true := by simpa using h0
  clear h0
  go_wp2
  exact bodyPost_ret (v := .tuple #[.string ⟨#[]⟩, .int .i64 f]) (by simp [results, Tryz.results5, go_sem]) rfl ⟨by rw [← HN.out, HF.out], HW.out⟩
end Tx
end Go.Proofs.YtfdaakghkhecgaaGreatDoor
