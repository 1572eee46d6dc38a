/- showVersion, ShowVersion of package value and of the reference; CheckVersion of the reference. Printed by gen_vread.py. Plain: the reference's reading of versions, that can be partial. No program stands in it. Plain: the parts of a version's text; what reading gives. Printed by gen_vread.py. -/
import Derived.Test.YtfdaakghkhecgaaDoorVb02
import Derived.Test.YtfdaakghkhecgaaDoorVb03
namespace Go.Proofs.YtfdaakghkhecgaaDoor
open Go.RowKit
namespace Tx
open _root_.Go.Proofs.YtfdaakghkhecgaaDoor.Nm
open _root_.Go.Proofs.YtfdaakghkhecgaaDoor.Nt (RH RH.cell RH.box RH.lt RH.new RH.ext RH.fre RH.set RH.other)
theorem stB_app (l r : List UInt8) : stB l ++ stB r = stB (l ++ r) := by
 apply ByteArray.ext
 simp [stB]
theorem dot_is (c : UInt8) : (⟨#[c]⟩ : ByteArray) = stB [c] := rfl
theorem three_is (a b c : List UInt8) : stB a ++ ⟨#[46]⟩ ++ stB b ++ ⟨#[46]⟩ ++ stB c = stB (a ++ 46 :: (b ++ 46 :: c)) := by
 rw [dot_is, stB_app, stB_app, stB_app, stB_app]
 congr 1
 simp
theorem pre_is (t q : List UInt8) : stB t ++ (⟨#[45]⟩ ++ stB q) = stB (t ++ 45 :: q) := by
 rw [dot_is, stB_app, stB_app]; rfl
theorem join_at (l : List ByteArray) (a : Option Addr) (c : Nat) (w : World) (h : SlS w a l c) (hne : l ≠ []) (hl : l.length ≤ 10) (hz : ∀ s ∈ l, s.size ≤ 20) :
  Calls Tryd.prog 18 #[.slice a l.length c, .string ⟨#[46]⟩] w fun e w' => e = .returned (.string (stB (joinL 46 (l.map (·.data.toList))))) ∧ Below w.heap.size w w' := by
 obtain ⟨x, r, rfl⟩ : ∃ x r, l = x :: r := by
  cases l with
  | nil => exact absurd rfl hne
  | cons x r => exact ⟨x, r, rfl⟩
 obtain ⟨a', cap, hv, h1, h2, h0, h3⟩ := h
 injection hv with e1 e2 e3
 subst e1; subst e3
 obtain ⟨b, o, rfl, hc0⟩ := h3 0 (.string x) rfl
 have hlen : (joinL 46 ((x :: r).map (·.data.toList))).length ≤ 10 * 21 := by
  refine Nat.le_trans (joinL_len (k := 20) fun y hy => ?_) ?_
  ·obtain ⟨s, hs, rfl⟩ := List.mem_map.1 hy
   have := hz s hs
   rw [show s.data.toList.length = s.size from Array.length_toList]; exact this
  ·rw [List.length_map]; exact Nat.mul_le_mul_right _ hl
 have hj : Lib.join ((x :: r).map (·.data.toList)) (⟨#[46]⟩ : ByteArray).data.toList = joinL 46 ((x :: r).map (·.data.toList)) := join_is 46 _
 refine (Tryd.strings_Join b o c (x :: r) ⟨#[46]⟩ w (fun j y hy => ?_) (World.block_lt_of_cell? _ _ hc0) (by omega) h1 (by rw [hj]; omega)).mono ?_
 ·obtain ⟨b', o', eb, hc⟩ := h3 j (.string y) (by simp only [strs, List.getElem?_map, hy]; rfl)
  cases eb
  exact hc
 ·rintro e w' ⟨rfl, hb⟩
  rw [hj]
  exact ⟨rfl, hb⟩
theorem pre_small {s : ByteArray} (h : preOk s = true) : s.size ≤ 20 := by
 unfold preOk at h
 simp only [Bool.and_eq_true, decide_eq_true_eq] at h
 exact h.1.1
def shS (x : Ver) : ByteArray := if chkVer x = 0 then stB (verT x) else ⟨#[]⟩
theorem chk_ok {x : Ver} (h : chkVer x = 0) : ∃ a b c : Nat, (a ≤ 999999 ∧ b ≤ 999999 ∧ c ≤ 999999) ∧ x = ⟨(a : Int), (b : Int), (c : Int), x.pre⟩ ∧ x.pre.length ≤ 10 ∧ ∀ s ∈ x.pre, s.size ≤ 20 := by
 obtain ⟨h1, h2, h3, h4, h5⟩ := chk_num h
 obtain ⟨ma, mi, pa, pre⟩ := x
 simp only at h1 h2 h3 h4 h5
 refine ⟨ma.toNat, mi.toNat, pa.toNat, ⟨by omega, by omega, by omega⟩, ?_, h4, fun s hs => pre_small (List.all_eq_true.1 h5 s hs)⟩
 simp only [Ver.mk.injEq, and_true]
 omega
theorem verT_is (a b c : Nat) (pre : List ByteArray) : stB (verT ⟨(a : Int), (b : Int), (c : Int), pre⟩) = if pre = [] then stB (decS a ++ 46 :: (decS b ++ 46 :: decS c)) else stB ((decS a ++ 46 :: (decS b ++ 46 :: decS c)) ++ 45 :: joinL 46 (pre.map (·.data.toList))) := by
 unfold verT preT
 simp only [Int.toNat_natCast]
 by_cases h : pre = []
 ·rw [if_pos h, if_pos h, List.append_nil]
 ·rw [if_neg h, if_neg h]
set_option maxRecDepth 100000 in
set_option maxHeartbeats 16000000 in
theorem showVer_at (a b c : Nat) (pre : List ByteArray) (ad : Option Addr) (cp : Nat) (hn : a ≤ 999999 ∧ b ≤ 999999 ∧ c ≤ 999999) (w : World) (hs : SlS w ad pre cp) (hz : pre.length ≤ 10 ∧ ∀ s ∈ pre, s.size ≤ 20) (ht : Tb w) : Calls Tryd.prog 8 #[.agg #[.int .i64 (a : Int), .int .i64 (b : Int), .int .i64 (c : Int), .slice ad pre.length cp]] w fun e w' => e = .returned (.string (stB (verT ⟨(a : Int), (b : Int), (c : Int), pre⟩))) ∧ Below w.heap.size w w' := by
 have HT0 := Lib.hid ht
 have HVT := Lib.hid (verT_is a b c pre)
 have HZ := Lib.hid hz
 have HSL := Lib.hid hs
 clear ht hz hs
 go_enter Tryd.func8, Tryd.ntmps8
 go_upto_region 1 with (fail)
 refine wp_vr1 fun w1' hbz hR0 => ?_
 have HR_v : Hid (RH w1' w.heap.size #[.int .i64 ((a : Int)), .int .i64 ((b : Int)), .int .i64 ((c : Int)), .slice ad pre.length cp] 24) := Lib.hid hR0
 have HW := Lib.hid hbz
 clear hbz hR0
 have HSP : Hid (SlS w1' ad pre cp) := Lib.hid (HSL.out.ext HW.out)
 clear HSL
 obtain ⟨sa, hsa⟩ : ∃ z, stB (decS a) = z := ⟨_, rfl⟩
 have HIa := Lib.hid (fun W9 t9 => (by have h9 := itoa_at a (by omega) W9 t9; rw [hsa] at h9; exact h9 : Calls Tryd.prog 17 #[.int .i64 (a : Int)] W9 fun e w' => e = .returned (.string sa) ∧ Below W9.heap.size W9 w'))
 obtain ⟨sb, hsb⟩ : ∃ z, stB (decS b) = z := ⟨_, rfl⟩
 have HIb := Lib.hid (fun W9 t9 => (by have h9 := itoa_at b (by omega) W9 t9; rw [hsb] at h9; exact h9 : Calls Tryd.prog 17 #[.int .i64 (b : Int)] W9 fun e w' => e = .returned (.string sb) ∧ Below W9.heap.size W9 w'))
 obtain ⟨sc, hsc⟩ : ∃ z, stB (decS c) = z := ⟨_, rfl⟩
 have HIc := Lib.hid (fun W9 t9 => (by have h9 := itoa_at c (by omega) W9 t9; rw [hsc] at h9; exact h9 : Calls Tryd.prog 17 #[.int .i64 (c : Int)] W9 fun e w' => e = .returned (.string sc) ∧ Below W9.heap.size W9 w'))
 have hza : sa.size ≤ 6 := by rw [← hsa, stB_size]; exact decS_length (by omega) (by decide)
 have hzb : sb.size ≤ 6 := by rw [← hsb, stB_size]; exact decS_length (by omega) (by decide)
 have hzc : sc.size ≤ 6 := by rw [← hsc, stB_size]; exact decS_length (by omega) (by decide)
 have HTT := Lib.hid (by rw [← hsa, ← hsb, ← hsc]; exact three_is (decS a) (decS b) (decS c) : sa ++ ⟨#[46]⟩ ++ sb ++ ⟨#[46]⟩ ++ sc = stB (decS a ++ 46 :: (decS b ++ 46 :: decS c)))
 clear hsa hsb hsc
 obtain ⟨c_v_0, c_v_1, c_v_2, c_v_3⟩ := zs4 HR_v.out
 refine Grow.wp_region_grow 13 [TP.eq (.pointer (some ⟨w.heap.size, 0, none⟩)), TP.eq (.int .i64 ((a : Int))), TP.eq (.string sa), TP.eq (.string (sa ++ ⟨#[46]⟩)), TP.eq (.pointer (some ⟨w.heap.size, 1, none⟩)), TP.eq (.int .i64 ((b : Int))), TP.eq (.string sb), TP.eq (.string (sa ++ ⟨#[46]⟩ ++ sb)), TP.eq (.string (sa ++ ⟨#[46]⟩ ++ sb ++ ⟨#[46]⟩)), TP.eq (.pointer (some ⟨w.heap.size, 2, none⟩)), TP.eq (.int .i64 ((c : Int))), TP.eq (.string sc), TP.eq (.string (sa ++ ⟨#[46]⟩ ++ sb ++ ⟨#[46]⟩ ++ sc))] [[], [0], [1], [2], [], [4], [5], [3, 6], [7], [], [9], [10], [8, 11]] (by kernel_rfl) (by kernel_rfl) ⟨?o0g, ?o1g, ?o2g, ?o3g, ?o4g, ?o5g, ?o6g, ?o7g, ?o8g, ?o9g, ?o10g, ?o11g, ?o12g, trivial⟩ ?_
 case o0g | o4g | o9g =>
  intro w' hb
  show wpList _ _ _ _ _ _
  go_wp2
  exact ⟨rfl, Below.refl _ _, rfl⟩
 case o1g =>
  intro w' hb v1 hv1
  obtain rfl : v1 = _ := hv1
  have c_v_0' := zzc hb c_v_0
  show wpList _ _ _ _ _ _
  simp only [Grow.dstOf, zz1, zz3, zz4, Act.put, zz5, zz6, zz7]
  go_wp2
  exact ⟨rfl, Below.refl _ _, rfl⟩
 case o2g =>
  intro w' hb v1 hv1
  obtain rfl : v1 = _ := hv1
  show wpList _ _ _ _ _ _
  simp only [Grow.dstOf, zz1, zz2, zz3, zz4, Act.put, zz5, zz6, zz7]
  go_wp2_with fail
  refine (HIa.out w' (HT0.out.ext (ext_trans HW.out hb))).mono ?_
  rintro e wz ⟨rfl, hbz⟩
  go_wp2
  exact ⟨rfl, hbz, rfl⟩
 case o3g | o8g =>
  intro w' hb v1 hv1
  obtain rfl : v1 = _ := hv1
  show wpList _ _ _ _ _ _
  simp only [Grow.dstOf, zz1, zz2, zz3, zz4, Act.put, zz5, zz6, zz7]
  go_wp2
  exact ⟨rfl, Below.refl _ _, rfl⟩
 case o5g | o10g =>
  intro w' hb v1 hv1
  obtain rfl : v1 = _ := hv1
  have c_v_1' := zzc hb c_v_1
  have c_v_2' := zzc hb c_v_2
  show wpList _ _ _ _ _ _
  simp only [Grow.dstOf, zz1, zz2, zz3, zz4, Act.put, zz5, zz6, zz7]
  go_wp2
  exact ⟨rfl, Below.refl _ _, rfl⟩
 case o6g =>
  intro w' hb v1 hv1
  obtain rfl : v1 = _ := hv1
  show wpList _ _ _ _ _ _
  simp only [Grow.dstOf, zz1, zz2, zz3, zz4, Act.put, zz5, zz6, zz7]
  go_wp2_with fail
  refine (HIb.out w' (HT0.out.ext (ext_trans HW.out hb))).mono ?_
  rintro e wz ⟨rfl, hbz⟩
  go_wp2
  exact ⟨rfl, hbz, rfl⟩
 case o7g | o12g =>
  intro w' hb v1 hv1 v2 hv2
  obtain rfl : v1 = _ := hv1
  obtain rfl : v2 = _ := hv2
  show wpList _ _ _ _ _ _
  simp only [Grow.dstOf, zz1, zz2, zz3, zz4, Act.put, zz5, zz6, zz7]
  go_wp2
  exact ⟨rfl, Below.refl _ _, rfl⟩
 case o11g =>
  intro w' hb v1 hv1
  obtain rfl : v1 = _ := hv1
  show wpList _ _ _ _ _ _
  simp only [Grow.dstOf, zz1, zz2, zz3, zz4, Act.put, zz5, zz6, zz7]
  go_wp2_with fail
  refine (HIc.out w' (HT0.out.ext (ext_trans HW.out hb))).mono ?_
  rintro e wz ⟨rfl, hbz⟩
  go_wp2
  exact ⟨rfl, hbz, rfl⟩
 intro w2' hbz u0 hu0 u1 hu1 u2 hu2 u3 hu3 u4 hu4 u5 hu5 u6 hu6 u7 hu7 u8 hu8 u9 hu9 u10 hu10 u11 hu11 u12 hu12
 obtain rfl : u12 = _ := hu12
 clear hu0 hu1 hu2 hu3 hu4 hu5 hu6 hu7 hu8 hu9 hu10 hu11
 replace HR_v := Lib.hid (HR_v.out.ext hbz)
 replace HSP := Lib.hid (HSP.out.ext hbz)
 replace HW := Lib.hid (ext_trans HW.out hbz)
 clear c_v_0 c_v_1 c_v_2 c_v_3
 clear hbz
 show wpList _ _ _ _ _ _
 simp only [Act.put, zz5, zz6, zz7]
 rw [HTT.out]
 obtain ⟨t, ht⟩ : ∃ z, decS a ++ 46 :: (decS b ++ 46 :: decS c) = z := ⟨_, rfl⟩
 have hzt : (stB t).size ≤ 20 := by
  have l1 := decS_length (x := a) (k := 6) (by omega) (by decide)
  have l2 := decS_length (x := b) (k := 6) (by omega) (by decide)
  have l3 := decS_length (x := c) (k := 6) (by omega) (by decide)
  rw [stB_size, ← ht, List.length_append, List.length_cons, List.length_append, List.length_cons]; omega
 rw [ht] at HVT ⊢
 clear ht HTT HIa HIb HIc hza hzb hzc
 obtain ⟨c_v_0, c_v_1, c_v_2, c_v_3⟩ := zs4 HR_v.out
 by_cases hp : pre = []
 ·have HN := Lib.hid (HVT.out.trans (if_pos hp))
  have hl0 : ¬ (0 : Int) < (pre.length : Int) := by rw [hp]; decide
  clear hp HVT
  go_wp2
  exact bodyPost_ret (v := .string (stB t)) (by simp [results, Tryd.results8, go_sem]) rfl ⟨by rw [HN.out], HW.out⟩
 ·have HN := Lib.hid (HVT.out.trans (if_neg hp))
  have HP := Lib.hid hp
  have hl0 : (0 : Int) < (pre.length : Int) := by have := List.length_pos_iff.2 hp; omega
  clear hp HVT
  go_wp2_with fail
  refine (join_at pre ad cp w2' HSP.out HP.out HZ.out.1 HZ.out.2).mono ?_
  rintro e w3' ⟨rfl, hbz⟩
  obtain ⟨jl, hj⟩ : ∃ z, joinL 46 (pre.map (·.data.toList)) = z := ⟨_, rfl⟩
  rw [hj] at HN ⊢
  have HPI := Lib.hid (pre_is t jl)
  have hzj : (stB jl).size ≤ 210 := by
   rw [stB_size, ← hj]
   refine Nat.le_trans (joinL_len (k := 20) fun y hy => ?_) ?_
   ·obtain ⟨s, hs, rfl⟩ := List.mem_map.1 hy
    have := HZ.out.2 s hs
    rw [show s.data.toList.length = s.size from Array.length_toList]; exact this
   ·rw [List.length_map]; exact Nat.mul_le_mul_right _ HZ.out.1
  clear hj
  replace HR_v := Lib.hid (HR_v.out.ext hbz)
  replace HSP := Lib.hid (HSP.out.ext hbz)
  replace HW := Lib.hid (ext_trans HW.out hbz)
  clear c_v_0 c_v_1 c_v_2 c_v_3
  clear hbz
  go_wp2
  exact bodyPost_ret (v := .string (stB t ++ (⟨#[45]⟩ ++ stB jl))) (by simp [results, Tryd.results8, go_sem]) rfl ⟨by rw [HN.out, ← HPI.out], HW.out⟩
set_option maxRecDepth 100000 in
set_option maxHeartbeats 16000000 in
theorem showVersion_at (x : Ver) (cs : List Value) (w : World) (h : RepVer w x cs) (ht : Tb w) : Calls Tryd.prog 4 #[.agg cs.toArray] w fun e w' => e = .returned (.tuple #[.string (shS x), .int .i64 (chkVer x)]) ∧ Below w.heap.size w w' := by
 obtain ⟨ad, cp, rfl, s1, hz⟩ := h
 have HT0 := Lib.hid ht
 have HR := Lib.hid (show RepVer w x _ from ⟨ad, cp, rfl, s1, hz⟩)
 clear ht s1 hz
 obtain ⟨f, hf⟩ : ∃ z, chkVer x = z := ⟨_, rfl⟩
 have HF := Lib.hid hf
 clear hf
 go_enter Tryd.func4, Tryd.ntmps4
 go_upto_region 1 with (fail)
 refine wp_vr1 fun w1' hbz hR0 => ?_
 have HR_v : Hid (RH w1' w.heap.size #[.int .i64 (x.ma), .int .i64 (x.mi), .int .i64 (x.pa), .slice ad x.pre.length cp] 24) := Lib.hid hR0
 have HW := Lib.hid hbz
 clear hbz hR0
 obtain ⟨c_v_0, c_v_1, c_v_2, c_v_3⟩ := zs4 HR_v.out
 go_wp2_with fail
 refine (checkVersion_at x _ w1' (HR.out.ext HW.out)).mono ?_
 rintro e w2' ⟨rfl, hbz⟩
 rw [HF.out]
 replace HR_v := Lib.hid (HR_v.out.ext hbz)
 replace HW := Lib.hid (ext_trans HW.out hbz)
 clear c_v_0 c_v_1 c_v_2 c_v_3
 clear hbz
 by_cases h0 : f = 0
 ·subst h0
  have HN : Hid (stB (verT x) = shS x) := Lib.hid (by unfold shS; rw [if_pos HF.out])
  have HSH : Hid (∀ W9, Tb W9 → RepVer W9 x [.int .i64 x.ma, .int .i64 x.mi, .int .i64 x.pa, .slice ad x.pre.length cp] → Calls Tryd.prog 8 #[.agg #[.int .i64 x.ma, .int .i64 x.mi, .int .i64 x.pa, .slice ad x.pre.length cp]] W9 fun e w' => e = .returned (.string (stB (verT x))) ∧ Below W9.heap.size W9 w') := Lib.hid (by
   intro W9 t9 r9
   obtain ⟨a, b, c, h1, h2, h3, h4⟩ := chk_ok HF.out
   obtain ⟨ad', cp', e9, s9, _⟩ := r9
   generalize x.pre = pre at *
   subst h2
   simp only [List.cons.injEq, Value.slice.injEq, and_true, true_and] at e9
   obtain ⟨rfl, rfl⟩ := e9
   exact showVer_at a b c pre ad cp h1 W9 s9 ⟨h3, h4⟩ t9)
  obtain ⟨st, hst⟩ : ∃ z, stB (verT x) = z := ⟨_, rfl⟩
  rw [hst] at HN HSH
  clear hst
  obtain ⟨c_v_0, c_v_1, c_v_2, c_v_3⟩ := zs4 HR_v.out
  go_wp2_with fail
  refine (HSH.out w2' (HT0.out.ext HW.out) (HR.out.ext HW.out)).mono ?_
  rintro e w3' ⟨rfl, hbz⟩
  replace HR_v := Lib.hid (HR_v.out.ext hbz)
  replace HW := Lib.hid (ext_trans HW.out hbz)
  clear c_v_0 c_v_1 c_v_2 c_v_3
  clear hbz
  go_wp2
  exact bodyPost_ret (v := .tuple #[.string st, .int .i64 0]) (by simp [results, Tryd.results4, go_sem]) rfl ⟨by rw [← HN.out, HF.out], HW.out⟩
 ·have HN : Hid (⟨#[]⟩ = shS x) := Lib.hid (by unfold shS; rw [if_neg (by rw [HF.out]; exact h0)])
  have hne : (f != 0) = true := by simpa using h0
  clear h0
  go_wp2
  exact bodyPost_ret (v := .tuple #[.string ⟨#[]⟩, .int .i64 f]) (by simp [results, Tryd.results4, go_sem]) rfl ⟨by rw [← HN.out, HF.out], HW.out⟩
end Tx
end Go.Proofs.YtfdaakghkhecgaaDoor
namespace Go.Proofs.YtfdaakghkhecgaaDoor
namespace Tx
open _root_.Go.Proofs.YtfdaakghkhecgaaDoor.Nm
def zeroVer : Ver := ⟨0, 0, 0, []⟩
end Tx
end Go.Proofs.YtfdaakghkhecgaaDoor
namespace Go.Proofs.YtfdaakghkhecgaaDoor
open Go.RowKit
namespace Tx
open _root_.Go.Proofs.YtfdaakghkhecgaaDoor.Nm
theorem cut1_len (c : UInt8) (l : List UInt8) : (cut1 c l).1.length ≤ l.length ∧ ∀ q, (cut1 c l).2 = some q → q.length ≤ l.length := by
 have h := congrArg List.length (cut1_back c l)
 rw [List.length_append] at h
 refine ⟨by omega, fun q hq => ?_⟩
 rw [hq] at h
 simp only [tailO, List.length_cons] at h
 omega
theorem pieces_size {c : UInt8} {l : List UInt8} {k : Nat} (h : l.length ≤ k) : ∀ s ∈ (cutL c l).map stB, s.size ≤ k := by
 intro s hs
 obtain ⟨x, hx, rfl⟩ := List.mem_map.1 hs
 rw [stB_size]; have := cutL_len x hx; omega
theorem preO_some (q : List UInt8) : preO (some q) = (cutL 46 q).map stB := rfl
theorem verO_len {t hd : List UInt8} {tl : Option (List UInt8)} (hc : cut1 45 t = (hd, tl)) (h : (cutL 46 hd).length ≠ 3) : verO t = none := by
 unfold verO; rw [hc]; simp only
 generalize cutL 46 hd = L at h
 rcases L with _ | ⟨a, _ | ⟨b, _ | ⟨c, _ | ⟨d, r⟩⟩⟩⟩
 ·rfl
 ·rfl
 ·rfl
 ·exact absurd rfl h
 ·rfl
theorem verO_fail {t hd u : List UInt8} {tl : Option (List UInt8)} {k : Nat} (hc : cut1 45 t = (hd, tl)) (h : (cutL 46 hd)[k]? = some u) (hv : vnO u = none) : verO t = none := by
 by_cases h3 : (cutL 46 hd).length = 3
 ·unfold verO; rw [hc]; simp only
  rcases hl : cutL 46 hd with _ | ⟨a, _ | ⟨b, _ | ⟨c, _ | ⟨d, r⟩⟩⟩⟩
  ·rfl
  ·rfl
  ·rfl
  ·rw [hl] at h
   have hk : k < 3 := by
    rcases Nat.lt_or_ge k 3 with h9 | h9
    ·exact h9
    ·rw [List.getElem?_eq_none (by simpa using h9)] at h; cases h
   have hk3 : k = 0 ∨ k = 1 ∨ k = 2 := by omega
   rcases hk3 with rfl | rfl | rfl
   ·injection h with h; subst h; simp only [hv]
   ·injection h with h; subst h; simp only [hv]; cases vnO a <;> rfl
   ·injection h with h; subst h; simp only [hv]; cases vnO a <;> cases vnO b <;> rfl
  ·rfl
 ·exact verO_len hc h3
theorem verO_yes {t hd : List UInt8} {tl : Option (List UInt8)} {x y z : Nat} (hc : cut1 45 t = (hd, tl)) (h : (cutL 46 hd).map vnO = [some x, some y, some z]) : verO t = if chkVer ⟨(x : Int), (y : Int), (z : Int), preO tl⟩ = 0 then some ⟨(x : Int), (y : Int), (z : Int), preO tl⟩ else none := by
 rcases hl : cutL 46 hd with _ | ⟨a, _ | ⟨b, _ | ⟨c, _ | ⟨d, r⟩⟩⟩⟩
 ·rw [hl] at h; have h9 := congrArg List.length h; simp at h9
 ·rw [hl] at h; have h9 := congrArg List.length h; simp at h9
 ·rw [hl] at h; have h9 := congrArg List.length h; simp at h9
 ·rw [hl] at h
  simp only [List.map_cons, List.map_nil, List.cons.injEq, and_true] at h
  obtain ⟨ha, hb, hcc⟩ := h
  have b1 := (vnO_iff.1 ha).2
  have b2 := (vnO_iff.1 hb).2
  have b3 := (vnO_iff.1 hcc).2
  have e : verO t = if (preO tl).length ≤ 10 ∧ (preO tl).all preOk = true then some ⟨(x : Int), (y : Int), (z : Int), preO tl⟩ else none := by
   unfold verO; rw [hc]; simp only [hl, ha, hb, hcc]
  rw [e]
  by_cases hp : (preO tl).length ≤ 10 ∧ (preO tl).all preOk = true
  ·rw [if_pos hp, if_pos (chk_of ⟨by simp, by simp; omega⟩ ⟨by simp, by simp; omega⟩ ⟨by simp, by simp; omega⟩ hp.1 hp.2)]
  ·rw [if_neg hp, if_neg (fun h => hp ⟨(chk_num h).2.2.2.1, (chk_num h).2.2.2.2⟩)]
 ·rw [hl] at h; have h9 := congrArg List.length h; simp at h9
/-- what reading a whole version gives -/
def RdPost (t : List UInt8) (w : World) (e : Ending) (w' : World) : Prop := ∃ x cs f, e = .returned (.tuple #[.agg cs.toArray, .int .i64 f]) ∧ RepVer w' x cs ∧ ((verO t = some x ∧ f = 0) ∨ (verO t = none ∧ x = zeroVer ∧ f = 10)) ∧ Below w.heap.size w w'
end Tx
end Go.Proofs.YtfdaakghkhecgaaDoor
