/- Whole, Plus, Times, Minus, Over, Less of the references: on texts. Printed by gen_rm.py. Whole, Plus, Times, Minus, Over, Less of the references: on numbers that are short enough. The walk of MetricRanksHold. Printed by gen_lawtails.py. -/
import Derived.Test.YtiieckboccbhhaaGreatDoorB934
import Derived.Test.YtiieckboccbhhaaGreatDoorB942
import Derived.Test.YtiieckboccbhhaaGreatDoorB933
import Derived.Test.YtiieckboccbhhaaGreatDoorB941
import Derived.Test.YtiieckboccbhhaaGreatDoorB900
import Derived.Test.YtiieckboccbhhaaGreatDoorB901
import Derived.Test.YtiieckboccbhhaaGreatDoorB904
import Derived.Test.YtiieckboccbhhaaGreatDoorB902
import Derived.Test.YtiieckboccbhhaaGreatDoorProg
import Derived.Test.YtiieckboccbhhaaGreatDoorB903
import Derived.Test.YtiieckboccbhhaaGreatDoorB905
import Derived.Test.YtiieckboccbhhaaGreatDoorB906
import Derived.Test.YtiieckboccbhhaaGreatDoorB907
import Derived.Test.YtiieckboccbhhaaGreatDoorB908
import Derived.Test.YtiieckboccbhhaaGreatDoorB909
import Derived.Test.YtiieckboccbhhaaGreatDoorB912
import Derived.Test.YtiieckboccbhhaaGreatDoorB913
import Derived.Test.YtiieckboccbhhaaGreatDoorB914
import Derived.Test.YtiieckboccbhhaaGreatDoorB922
import Derived.Test.YtiieckboccbhhaaGreatDoorB924
import Derived.Test.YtiieckboccbhhaaGreatDoorB940
import Derived.Test.YtiieckboccbhhaaGreatDoorB915
import Derived.Test.YtiieckboccbhhaaGreatDoorB916
import Derived.Test.YtiieckboccbhhaaGreatDoorB917
import Derived.Test.YtiieckboccbhhaaGreatDoorB918
import Derived.Test.YtiieckboccbhhaaGreatDoorB919
import Derived.Test.YtiieckboccbhhaaGreatDoorB920
import Derived.Test.YtiieckboccbhhaaGreatDoorB921
import Derived.Test.YtiieckboccbhhaaGreatDoorShelf
import Derived.Test.YtiieckboccbhhaaGreatDoorB923
import Derived.Test.YtiieckboccbhhaaGreatDoorB925
import Derived.Test.YtiieckboccbhhaaGreatDoorB926
import Derived.Test.YtiieckboccbhhaaGreatDoorB932
import Derived.Test.YtiieckboccbhhaaGreatDoorB936
import Derived.Test.YtiieckboccbhhaaGreatDoorB937
namespace Go.Proofs.YtiieckboccbhhaaGreatDoor
open Go.RowKit
namespace Nt
open _root_.Go.Proofs.YtiieckboccbhhaaGreatDoor.Nm (rF rQ sgn outN outD outF AnsPost bF opN opD opF quoN quoD quoF ordV OrdPost)
set_option maxRecDepth 100000 in
set_option maxHeartbeats 8000000 in
theorem mPlus_at (n1 d1 n2 d2 : ByteArray) (h1 : n1.size ≤ maxLen) (h2 : d1.size ≤ maxLen) (h3 : n2.size ≤ maxLen) (h4 : d2.size ≤ maxLen) (w : World) (ht : Tab w) : Calls Tryz.prog 34 #[.agg #[.string n1, .string d1], .agg #[.string n2, .string d2]] w (RPost w (opN (· + ·) n1 d1 n2 d2) (opD (· + ·) n1 d1 n2 d2)) := by
 obtain ⟨s, hs⟩ : ∃ s, opN (· + ·) n1 d1 n2 d2 = s := ⟨_, rfl⟩
 obtain ⟨t, htt⟩ : ∃ t, opD (· + ·) n1 d1 n2 d2 = t := ⟨_, rfl⟩
 have HST := Lib.hid (And.intro hs htt)
 rw [hs, htt]
 clear hs htt
 go_enter Tryz.func34, Tryz.ntmps34
 go_upto_region 1 with (fail)
 refine wp_box3r fun W hsz hbW hA hB hC hF => ?_
 have HT := Lib.hid (ht.ext hbW)
 clear hsz ht
 have a0 : W.cell? ⟨w.heap.size, 0, none⟩ = some (.string n1) := hA.2 0
 have a1 : W.cell? ⟨w.heap.size, 1, none⟩ = some (.string d1) := hA.2 1
 have a2 : W.cell? ⟨w.heap.size + 1, 0, none⟩ = some (.string n2) := hB.2 0
 have a3 : W.cell? ⟨w.heap.size + 1, 1, none⟩ = some (.string d2) := hB.2 1
 have HX := Lib.hid (And.intro hC (And.intro hF hbW))
 clear hA hB hC hF hbW
 go_wp2_with fail
 refine (refSum_at n1 d1 n2 d2 h1 h2 h3 h4 W HT.out).mono ?_
 rintro e w1 ⟨rfl, hb1⟩
 rw [HST.out.1, HST.out.2]
 have HX1 := Lib.hid (And.intro (HX.out.1.ext hb1) (And.intro (HX.out.2.1.ext HX.out.1 hb1) (ext_trans HX.out.2.2 hb1)))
 clear a0 a1 a2 a3 HX HT hb1
 go_upto_region 2 with (fail)
 refine wp_box1 fun w2 hsz2 hb2 hR => ?_
 have hC2 := HX1.out.1.ext hb2
 have hF2 := HX1.out.2.1.ext HX1.out.1 hb2
 have hbw2 := ext_trans HX1.out.2.2 hb2
 clear hsz2 HX1 hb2
 generalize w1.heap.size = br at *
 have x0 : w2.cell? ⟨br, 0, none⟩ = some (.string s) := hR.2 0
 have x1 : w2.cell? ⟨br, 1, none⟩ = some (.string t) := hR.2 1
 have r0 : w2.cell? ⟨w.heap.size + 2, 0, none⟩ = some (.string ⟨#[]⟩) := hC2.2 0
 have r1 : w2.cell? ⟨w.heap.size + 2, 1, none⟩ = some (.string ⟨#[]⟩) := hC2.2 1
 have g0 := hF2 0
 have g1 := hF2 1
 have HR := Lib.hid (res2s (.string s) (.string t) hC2 hbw2 (by omega))
 obtain ⟨hbF, z0, z1⟩ := id HR.out
 clear hC2 hF2 hbw2 hR hbF
 go_wp2
 exact bodyPost_ret (v := .agg #[.string s, .string t]) (by simp [results, Tryz.results34, go_sem, z0, z1]) rfl ⟨rfl, HR.out.1⟩
set_option maxRecDepth 100000 in
set_option maxHeartbeats 8000000 in
theorem mTimes_at (n1 d1 n2 d2 : ByteArray) (h1 : n1.size ≤ maxLen) (h2 : d1.size ≤ maxLen) (h3 : n2.size ≤ maxLen) (h4 : d2.size ≤ maxLen) (w : World) (ht : Tab w) : Calls Tryz.prog 35 #[.agg #[.string n1, .string d1], .agg #[.string n2, .string d2]] w (RPost w (opN (· * ·) n1 d1 n2 d2) (opD (· * ·) n1 d1 n2 d2)) := by
 obtain ⟨s, hs⟩ : ∃ s, opN (· * ·) n1 d1 n2 d2 = s := ⟨_, rfl⟩
 obtain ⟨t, htt⟩ : ∃ t, opD (· * ·) n1 d1 n2 d2 = t := ⟨_, rfl⟩
 have HST := Lib.hid (And.intro hs htt)
 rw [hs, htt]
 clear hs htt
 go_enter Tryz.func35, Tryz.ntmps35
 go_upto_region 1 with (fail)
 refine wp_box3r fun W hsz hbW hA hB hC hF => ?_
 have HT := Lib.hid (ht.ext hbW)
 clear hsz ht
 have a0 : W.cell? ⟨w.heap.size, 0, none⟩ = some (.string n1) := hA.2 0
 have a1 : W.cell? ⟨w.heap.size, 1, none⟩ = some (.string d1) := hA.2 1
 have a2 : W.cell? ⟨w.heap.size + 1, 0, none⟩ = some (.string n2) := hB.2 0
 have a3 : W.cell? ⟨w.heap.size + 1, 1, none⟩ = some (.string d2) := hB.2 1
 have HX := Lib.hid (And.intro hC (And.intro hF hbW))
 clear hA hB hC hF hbW
 go_wp2_with fail
 refine (refProduct_at n1 d1 n2 d2 h1 h2 h3 h4 W HT.out).mono ?_
 rintro e w1 ⟨rfl, hb1⟩
 rw [HST.out.1, HST.out.2]
 have HX1 := Lib.hid (And.intro (HX.out.1.ext hb1) (And.intro (HX.out.2.1.ext HX.out.1 hb1) (ext_trans HX.out.2.2 hb1)))
 clear a0 a1 a2 a3 HX HT hb1
 go_upto_region 2 with (fail)
 refine wp_box1 fun w2 hsz2 hb2 hR => ?_
 have hC2 := HX1.out.1.ext hb2
 have hF2 := HX1.out.2.1.ext HX1.out.1 hb2
 have hbw2 := ext_trans HX1.out.2.2 hb2
 clear hsz2 HX1 hb2
 generalize w1.heap.size = br at *
 have x0 : w2.cell? ⟨br, 0, none⟩ = some (.string s) := hR.2 0
 have x1 : w2.cell? ⟨br, 1, none⟩ = some (.string t) := hR.2 1
 have r0 : w2.cell? ⟨w.heap.size + 2, 0, none⟩ = some (.string ⟨#[]⟩) := hC2.2 0
 have r1 : w2.cell? ⟨w.heap.size + 2, 1, none⟩ = some (.string ⟨#[]⟩) := hC2.2 1
 have g0 := hF2 0
 have g1 := hF2 1
 have HR := Lib.hid (res2s (.string s) (.string t) hC2 hbw2 (by omega))
 obtain ⟨hbF, z0, z1⟩ := id HR.out
 clear hC2 hF2 hbw2 hR hbF
 go_wp2
 exact bodyPost_ret (v := .agg #[.string s, .string t]) (by simp [results, Tryz.results35, go_sem, z0, z1]) rfl ⟨rfl, HR.out.1⟩
set_option maxRecDepth 100000 in
set_option maxHeartbeats 8000000 in
theorem mMinus_at (n1 d1 n2 d2 p q p' q' s t : ByteArray) (_h1 : n1.size ≤ maxLen) (_h2 : d1.size ≤ maxLen) (HW : Hid (∀ w', Tab w' → Calls Tryz.prog 12 #[.int .i64 (-1)] w' (RPost w' p q)))
  (HM : Hid (∀ w', Tab w' → Calls Tryz.prog 35 #[.agg #[.string p, .string q], .agg #[.string n2, .string d2]] w' (RPost w' p' q'))) (HP : Hid (∀ w', Tab w' → Calls Tryz.prog 34 #[.agg #[.string n1, .string d1], .agg #[.string p', .string q']] w' (RPost w' s t)))
  (w : World) (ht : Tab w) : Calls Tryz.prog 11 #[.agg #[.string n1, .string d1], .agg #[.string n2, .string d2]] w (RPost w s t) := by
 go_enter Tryz.func11, Tryz.ntmps11
 go_upto_region 1 with (fail)
 refine wp_box3r fun W hsz hbW hA hB hC hF => ?_
 have HT := Lib.hid (ht.ext hbW)
 clear hsz ht
 have a0 : W.cell? ⟨w.heap.size, 0, none⟩ = some (.string n1) := hA.2 0
 have a1 : W.cell? ⟨w.heap.size, 1, none⟩ = some (.string d1) := hA.2 1
 have a2 : W.cell? ⟨w.heap.size + 1, 0, none⟩ = some (.string n2) := hB.2 0
 have a3 : W.cell? ⟨w.heap.size + 1, 1, none⟩ = some (.string d2) := hB.2 1
 have HX := Lib.hid (And.intro hC (And.intro hF hbW))
 clear hA hB hC hF hbW
 refine Grow.wp_region_grow 5 [TP.eq (.agg #[.string n1, .string d1]), TP.eq (.agg #[.string p, .string q]), TP.eq (.agg #[.string n2, .string d2]), TP.eq (.agg #[.string p', .string q']), TP.eq (.agg #[.string s, .string t])] [[], [], [], [1, 2], [0, 3]] (by kernel_rfl) (by kernel_rfl) ⟨?o0, ?o1, ?o2, ?o3, ?o4, trivial⟩ ?_
 case o0 =>
  intro w' hb
  have a0' := zzc hb a0
  have a1' := zzc hb a1
  show wpList _ _ _ _ _ _
  go_wp2
  exact ⟨rfl, Below.refl _ _, rfl⟩
 case o1 =>
  intro w' hb
  show wpList _ _ _ _ _ _
  go_wp2_with fail
  refine (HW.out w' (HT.out.ext hb)).mono ?_
  rintro e wz ⟨rfl, hbz⟩
  go_wp2
  exact ⟨rfl, hbz, rfl⟩
 case o2 =>
  intro w' hb
  have a2' := zzc hb a2
  have a3' := zzc hb a3
  show wpList _ _ _ _ _ _
  go_wp2
  exact ⟨rfl, Below.refl _ _, rfl⟩
 case o3 =>
  intro w' hb v1 hv1 v2 hv2
  obtain rfl : v1 = _ := hv1
  obtain rfl : v2 = _ := hv2
  show wpList _ _ _ _ _ _
  simp only [Grow.dstOf, zz1, zz2, zz3, zz4, Act.put, zz5, zz6, zz7]
  go_wp2_with fail
  refine (HM.out w' (HT.out.ext hb)).mono ?_
  rintro e wz ⟨rfl, hbz⟩
  go_wp2
  exact ⟨rfl, hbz, rfl⟩
 case o4 =>
  intro w' hb v1 hv1 v2 hv2
  obtain rfl : v1 = _ := hv1
  obtain rfl : v2 = _ := hv2
  show wpList _ _ _ _ _ _
  simp only [Grow.dstOf, zz1, zz2, zz3, zz4, Act.put, zz5, zz6, zz7]
  go_wp2_with fail
  refine (HP.out w' (HT.out.ext hb)).mono ?_
  rintro e wz ⟨rfl, hbz⟩
  go_wp2
  exact ⟨rfl, hbz, rfl⟩
 intro w7 hb7 v0 h0 v1 h1' v2 h2' v3 h3' v4 h4'
 obtain rfl : v4 = _ := h4'
 clear h0 h1' h2' h3'
 have hC2 := HX.out.1.ext hb7
 have hF2 := HX.out.2.1.ext HX.out.1 hb7
 have hbw2 := ext_trans HX.out.2.2 hb7
 have r0 : w7.cell? ⟨w.heap.size + 2, 0, none⟩ = some (.string ⟨#[]⟩) := hC2.2 0
 have r1 : w7.cell? ⟨w.heap.size + 2, 1, none⟩ = some (.string ⟨#[]⟩) := hC2.2 1
 have g0 := hF2 0
 have g1 := hF2 1
 have HR := Lib.hid (res2s (.string s) (.string t) hC2 hbw2 (by omega))
 obtain ⟨hbF, z0, z1⟩ := id HR.out
 clear hC2 hF2 hbw2 hbF a0 a1 a2 a3 HX
 show wpList _ _ _ _ _ _
 simp only [Act.put, zz5, zz6, zz7]
 go_wp2
 exact bodyPost_ret (v := .agg #[.string s, .string t]) (by simp [results, Tryz.results11, go_sem, z0, z1]) rfl ⟨rfl, HR.out.1⟩
end Nt
end Go.Proofs.YtiieckboccbhhaaGreatDoor
namespace Go.Proofs.YtiieckboccbhhaaGreatDoor
open Go.RowKit
namespace Nm
theorem fits_neg {q : Rat} (h : Fits q) : Fits (-q) := by
  unfold Fits at *
  rw [Rat.neg_num, Rat.neg_den, Int.natAbs_neg]; exact h
theorem op_show {op : Rat → Rat → Rat} {p q : Rat} (hp : Fits p) (hq : Fits q) (hs : Fits (op p q)) : opN op (showN p) (showD p) (showN q) (showD q) = showN (op p q) ∧ opD op (showN p) (showD p) (showN q) (showD q) = showD (op p q) := by
  unfold opN opD
  rw [if_pos (bF_show hp hq), if_pos (bF_show hp hq), (back hp).2, (back hq).2, (out_fits hs).1, (out_fits hs).2.1]; exact ⟨rfl, rfl⟩
end Nm
namespace Nt
open _root_.Go.Proofs.YtiieckboccbhhaaGreatDoor.Nm (showN showD Fits show_size op_show ord_show quo_one fits_int fits_neg cmpQ cmpQ_neg i64_ten)
theorem mPlusQ (p q : Rat) (hp : Fits p) (hq : Fits q) (hs : Fits (p + q)) (w : World) (ht : Tab w) : Calls Tryz.prog 34 #[rtV p, rtV q] w (RtP w (p + q)) := by
  have h := mPlus_at _ _ _ _ (show_size hp).1 (show_size hp).2 (show_size hq).1 (show_size hq).2 w ht
  rw [(op_show (op := (· + ·)) hp hq hs).1, (op_show (op := (· + ·)) hp hq hs).2] at h
  exact h
theorem mTimesQ (p q : Rat) (hp : Fits p) (hq : Fits q) (hs : Fits (p * q)) (w : World) (ht : Tab w) : Calls Tryz.prog 35 #[rtV p, rtV q] w (RtP w (p * q)) := by
  have h := mTimes_at _ _ _ _ (show_size hp).1 (show_size hp).2 (show_size hq).1 (show_size hq).2 w ht
  rw [(op_show (op := (· * ·)) hp hq hs).1, (op_show (op := (· * ·)) hp hq hs).2] at h
  exact h
theorem mMinusQ (p q : Rat) (hp : Fits p) (hq : Fits q) (hs : Fits (p - q)) (w : World) (ht : Tab w) : Calls Tryz.prog 11 #[rtV p, rtV q] w (RtP w (p - q)) := by
  have e : ((-1 : Int) : Rat) * q = -q := by
    have : ((-1 : Int) : Rat) = -1 := by decide
    rw [this]; grind
  refine mMinus_at (showN p) (showD p) (showN q) (showD q) (showN ((-1 : Int) : Rat)) (showD ((-1 : Int) : Rat)) (showN (-q)) (showD (-q)) (showN (p - q)) (showD (p - q)) (show_size hp).1 (show_size hp).2 (Lib.hid fun w' h' => mWholeQ (-1) (by decide) (by decide) w' h') (Lib.hid fun w' h' => ?_) (Lib.hid fun w' h' => ?_) w ht
  · have h := mTimesQ ((-1 : Int) : Rat) q (fits_int (by decide)) hq (by rw [e]; exact fits_neg hq) w' h'
    rw [e] at h
    exact h
  · rw [Rat.sub_eq_add_neg] at hs ⊢
    exact mPlusQ p (-q) hp (fits_neg hq) hs w' h'
end Nt
end Go.Proofs.YtiieckboccbhhaaGreatDoor
namespace Go.Proofs.YtiieckboccbhhaaGreatDoor
open Go.RowKit
namespace Nm
open _root_.Go.Proofs.YtiieckboccbhhaaGreatDoor.Nt (RH RH.cell RH.box RH.row RH.lt RH.new RH.ext RH.fre RH.set RH.other Tab Tab.ext wp_frs1 cs_other')
open _root_.Go.Proofs.YtiieckboccbhhaaGreatDoor.Nt (rtV RtP mMinusQ)
theorem fits_rest {q : Rat} {a b : ByteArray} (h : Fits q) (h0 : 0 < rQ a b) (h1 : rQ a b < 1) (hq : rQ a b = q) : Fits (1 - q) := by
 rw [hq] at h0 h1
 have hdn : (0 : Rat) < ((q.den : Nat) : Rat) := by have := Rat.natCast_lt_natCast.2 q.den_pos; simpa using this
 have hne : ((q.den : Nat) : Rat) ≠ 0 := fun e => by rw [e] at hdn; exact absurd hdn (by decide)
 have hq0 : ((q.num : Int) : Rat) / ((q.den : Nat) : Rat) = q := by rw [← Rat.mkRat_eq_div]; exact Rat.mkRat_self q
 have hq1 : q * ((q.den : Nat) : Rat) = ((q.num : Int) : Rat) := by have h8 := hq0; generalize ((q.num : Int) : Rat) = u at *; generalize ((q.den : Nat) : Rat) = v at *; rw [← h8]; grind
 have e : (1 : Rat) - q = mkRat ((q.den : Int) - q.num) q.den := by
  rw [Rat.mkRat_eq_div, Rat.intCast_sub, Rat.intCast_natCast]
  generalize ((q.num : Int) : Rat) = u at *
  generalize ((q.den : Nat) : Rat) = v at *
  grind
 have hn0 : 0 < q.num := by rw [Rat.lt_iff] at h0; simpa using h0
 have hn1 : q.num < (q.den : Int) := by rw [Rat.lt_iff] at h1; simpa using h1
 have hb : Bd q.den q.den (1 - q) := FZ.bd ⟨q.den_nz, (q.den : Int) - q.num, by omega, e⟩
 have hl := lt_of_decS (k := DM) h.2
 have hd1 : 1 ≤ DM := by decide
 exact ⟨(decS_length (Nat.lt_of_le_of_lt hb.1 hl) hd1 : _ ≤ DM), (decS_length (Nat.lt_of_le_of_lt hb.2 hl) hd1 : _ ≤ DM)⟩
set_option maxRecDepth 100000 in
set_option maxHeartbeats 16000000 in
theorem lawRho_at (n m : Int) (a b : ByteArray) (ha : a.size ≤ maxLen) (hb : b.size ≤ maxLen) (w : World) (ht : Tab w) : Calls Tryz.prog 4 #[.int .i64 n, .int .i64 m, .agg #[.string a, .string b]] w fun e w' => e = .returned (.bool true) ∧ Below w.heap.size w w' := by
 obtain ⟨lo, hlo⟩ : ∃ z, rnLo n m a b = z := ⟨_, rfl⟩
 obtain ⟨hi, hhi⟩ : ∃ z, rnHi n m a b = z := ⟨_, rfl⟩
 obtain ⟨f, hf⟩ : ∃ z, rnF n m a b = z := ⟨_, rfl⟩
 have HF := Lib.hid (And.intro hlo (And.intro hhi hf))
 have HC := Lib.hid (rn_cases n m a b)
 rw [hlo, hhi, hf] at HC
 clear hlo hhi hf
 go_enter Tryz.func4, Tryz.ntmps4
 have HT0 := Lib.hid ht
 clear ht
 go_upto_region 1 with (fail)
 refine wp_frs1 fun w1' hbz hR0 => ?_
 have HR_m : Hid (RH w1' w.heap.size #[.string a, .string b] 23) := Lib.hid hR0
 have HW := Lib.hid hbz
 clear hbz hR0
 obtain ⟨c_m_0, c_m_1⟩ := zs2 HR_m.out
 go_wp2_with fail
 refine (metRanks_at n m a b ha hb w1').mono ?_
 rintro e w2' ⟨rfl, hbz⟩
 rw [HF.out.1, HF.out.2.1, HF.out.2.2]
 replace HR_m := Lib.hid (HR_m.out.ext hbz)
 replace HW := Lib.hid (ext_trans HW.out hbz)
 clear c_m_0 c_m_1
 clear hbz
 by_cases h0 : f = 0
 ·subst h0
  have hmr : missF a b = 0 ∧ rnOk n m := by rcases HC.out with h | h; exact absurd rfl h.1; exact h.2
  obtain ⟨hmi, hok⟩ := hmr
  have ho1 := hok.1
  have ho2 := hok.2
  obtain ⟨n', hn'⟩ : ∃ z : Nat, n = (z : Int) := ⟨n.toNat, by omega⟩
  obtain ⟨m', hm'⟩ : ∃ z : Nat, m = (z : Int) := ⟨m.toNat, by omega⟩
  subst hn'
  subst hm'
  have hrn := (rn_yes hmi hok).2
  rw [HF.out.1, HF.out.2.1] at hrn
  obtain ⟨h1, h2⟩ := hrn
  have hrh := ranks_hold (n := n') (m := m') (by omega) (miss_ok hmi).2.1 (miss_ok hmi).2.2
  have h6 : hiR n' m' (rQ a b) ≤ n' + 1 := highV_le n' m' (1 - rQ a b / 2) (d := n' + 1) (j := n') (N := n' + 1) (Nat.le_refl _) (Nat.le_succ _)
  obtain ⟨P, hP⟩ : ∃ z, loR n' m' (rQ a b) = z := ⟨_, rfl⟩
  obtain ⟨R, hR⟩ : ∃ z, hiR n' m' (rQ a b) = z := ⟨_, rfl⟩
  rw [hP] at h1 hrh
  rw [hR] at h2 hrh h6
  subst h1
  subst h2
  obtain ⟨q, hfq, hq, hqa, hqb⟩ := Nt.show_parts (miss_ok hmi).1
  rw [hq] at hrh
  have hPR := hrh.1
  have hlt : (P : Int) < (R : Int) := by omega
  have htP := (tl_yes (n := n') (m := m') (k := P) (by unfold tlOk; omega))
  have htR := (tl_yes (n := n') (m := m') (k := R) (by unfold tlOk; omega))
  have hlP := tailQ_ln (n := n') (m := m') (k := P) (by omega) (by omega) (by omega)
  have hlR := tailQ_ln (n := n') (m := m') (k := R) (by omega) (by omega) (by omega)
  obtain ⟨x, hx⟩ : ∃ z, tailQ n' m' P = z := ⟨_, rfl⟩
  obtain ⟨y, hy⟩ : ∃ z, tailQ n' m' R = z := ⟨_, rfl⟩
  rw [hx] at htP hlP hrh
  rw [hy] at htR hlR hrh
  have hfx : Fits x := hlP.fits (by decide) (by decide)
  have hfy : Fits y := hlR.fits (by decide) (by decide)
  rw [(out_fits hfx).1, (out_fits hfx).2.1, (out_fits hfx).2.2] at htP
  rw [(out_fits hfy).1, (out_fits hfy).2.1, (out_fits hfy).2.2] at htR
  have hfd : Fits (y - x) := ((hlR.sub hlP).mono (a' := 400) (b' := 400) (by decide) (by decide)).fits (by decide) (by decide)
  have hfe := fits_rest hfq (miss_ok hmi).2.1 (miss_ok hmi).2.2 hq
  obtain ⟨D, hD⟩ : ∃ z, y - x = z := ⟨_, rfl⟩
  obtain ⟨E, hE⟩ : ∃ z, 1 - q = z := ⟨_, rfl⟩
  rw [hD] at hfd hrh
  rw [hE] at hfe hrh
  obtain ⟨O, hO⟩ : ∃ z : Rat, 1 = z := ⟨_, rfl⟩
  have hfO : Fits O := by rw [← hO]; exact Nt.fits1
  have HTP := Lib.hid htP
  have HTR := Lib.hid htR
  have HLS : Hid (decide (D < E) = false) := Lib.hid (decide_eq_false hrh.2)
  have HMD := Lib.hid (fun W9 t9 => (by have h9 := mMinusQ y x hfy hfx (by rw [hD]; exact hfd) W9 t9; rw [hD] at h9; exact h9 : Calls Tryz.prog 11 #[rtV y, rtV x] W9 (RtP W9 D)))
  have HME := Lib.hid (fun W9 t9 => (by have h9 := mMinusQ O q hfO hfq (by rw [← hO, hE]; exact hfe) W9 t9; rw [← hO, hE, hO] at h9; unfold rtV at h9; rw [← hqa, ← hqb] at h9; exact h9 : Calls Tryz.prog 11 #[.agg #[.string (showN O), .string (showD O)], .agg #[.string a, .string b]] W9 (RtP W9 E)))
  have HWO := Lib.hid (fun W9 t9 => (by have h9 := Nt.whole1 W9 t9; rw [hO] at h9; exact h9 : Calls Tryz.prog 12 #[.int .i64 1] W9 (RtP W9 O)))
  have HLE := Lib.hid (fun W9 t9 => Nt.less_is D E false HLS.out hfd hfe W9 t9)
  clear hP hR hq hqa hqb hrh hPR htP htR hlP hlR hx hy hD hE hO hfd hfe hfO hfq hfx hfy HF HC hmi hok
  go_wp2_with fail
  refine (metTail_at n' m' P w2').mono ?_
  rintro e w3' ⟨rfl, hbz⟩
  rw [HTP.out.1, HTP.out.2.1, HTP.out.2.2]
  replace HR_m := Lib.hid (HR_m.out.ext hbz)
  replace HW := Lib.hid (ext_trans HW.out hbz)
  clear hbz
  go_upto_region 5 with (fail)
  refine wp_frs1 fun w4' hbz hR0 => ?_
  have lt_m_x : w.heap.size < w3'.heap.size := HR_m.out.lt
  have le_x : w.heap.size ≤ w3'.heap.size := HW.out.size
  replace HR_m := Lib.hid (HR_m.out.ext hbz)
  replace HW := Lib.hid (ext_trans HW.out hbz)
  clear hbz
  have HR_x : Hid (RH w4' w3'.heap.size #[.string (showN x), .string (showD x)] 23) := Lib.hid hR0
  clear hR0
  generalize w3'.heap.size = b_x at *
  go_wp2_with fail
  refine (metTail_at n' m' R w4').mono ?_
  rintro e w5' ⟨rfl, hbz⟩
  rw [HTR.out.1, HTR.out.2.1, HTR.out.2.2]
  replace HR_m := Lib.hid (HR_m.out.ext hbz)
  replace HR_x := Lib.hid (HR_x.out.ext hbz)
  replace HW := Lib.hid (ext_trans HW.out hbz)
  clear hbz
  go_upto_region 6 with (fail)
  refine wp_frs1 fun w6' hbz hR0 => ?_
  have lt_m_y : w.heap.size < w5'.heap.size := HR_m.out.lt
  have lt_x_y : b_x < w5'.heap.size := HR_x.out.lt
  have le_y : w.heap.size ≤ w5'.heap.size := HW.out.size
  replace HR_m := Lib.hid (HR_m.out.ext hbz)
  replace HR_x := Lib.hid (HR_x.out.ext hbz)
  replace HW := Lib.hid (ext_trans HW.out hbz)
  clear hbz
  have HR_y : Hid (RH w6' w5'.heap.size #[.string (showN y), .string (showD y)] 23) := Lib.hid hR0
  clear hR0
  generalize w5'.heap.size = b_y at *
  obtain ⟨c_m_0, c_m_1⟩ := zs2 HR_m.out
  obtain ⟨c_x_0, c_x_1⟩ := zs2 HR_x.out
  obtain ⟨c_y_0, c_y_1⟩ := zs2 HR_y.out
  go_upto_region 6 with (fail)
  refine Grow.wp_region_grow 20 [TP.eq (.int .i64 (0)), TP.eq (.bool (true)), TP.eq (.bool (true)), TP.eq (.int .i64 (0)), TP.eq (.bool (true)), TP.eq (.bool (true)), TP.eq (.bool (true)), TP.eq (.int .i64 ((P : Int))), TP.eq (.int .i64 ((R : Int))), TP.eq (.bool (true)), TP.eq (.bool (true)), TP.eq (.bool (true)), TP.eq (.agg #[.string (showN y), .string (showD y)]), TP.eq (.agg #[.string (showN x), .string (showD x)]), TP.eq (.agg #[.string (showN D), .string (showD D)]), TP.eq (.agg #[.string (showN O), .string (showD O)]), TP.eq (.agg #[.string a, .string b]), TP.eq (.agg #[.string (showN E), .string (showD E)]), TP.eq (.bool (false)), TP.eq (.bool (true))] [[], [0], [1], [2], [2, 3], [2, 4], [5], [6], [6], [6, 7, 8], [6, 9], [10], [11], [11], [11, 12, 13], [11], [11], [11, 15, 16], [11, 14, 17], [11, 18]] (by kernel_rfl) (by kernel_rfl) ⟨?o0g, ?o1g, ?o2g, ?o3g, ?o4g, ?o5g, ?o6g, ?o7g, ?o8g, ?o9g, ?o10g, ?o11g, ?o12g, ?o13g, ?o14g, ?o15g, ?o16g, ?o17g, ?o18g, ?o19g, trivial⟩ ?_
  case o0g =>
   intro w' hb
   show wpList _ _ _ _ _ _
   go_wp2
   exact ⟨rfl, Below.refl _ _, rfl⟩
  case o1g =>
   intro w' hb v1 hv1
   obtain rfl : v1 = _ := hv1
   show wpList _ _ _ _ _ _
   simp only [Grow.dstOf, zz1, zz3, zz4, Act.put, zz5, zz6, zz7]
   go_wp2
   exact ⟨rfl, Below.refl _ _, rfl⟩
  case o2g | o3g | o6g | o7g | o8g | o11g =>
   intro w' hb v1 hv1
   obtain rfl : v1 = _ := hv1
   show wpList _ _ _ _ _ _
   simp only [Grow.dstOf, zz1, zz2, zz3, zz4, Act.put, zz5, zz6, zz7]
   go_wp2
   exact ⟨rfl, Below.refl _ _, rfl⟩
  case o4g | o5g | o10g | o19g =>
   intro w' hb v1 hv1 v2 hv2
   obtain rfl : v1 = _ := hv1
   obtain rfl : v2 = _ := hv2
   show wpList _ _ _ _ _ _
   simp only [Grow.dstOf, zz1, zz2, zz3, zz4, Act.put, zz5, zz6, zz7]
   go_wp2
   exact ⟨rfl, Below.refl _ _, rfl⟩
  case o9g =>
   intro w' hb v1 hv1 v2 hv2 v3 hv3
   obtain rfl : v1 = _ := hv1
   obtain rfl : v2 = _ := hv2
   obtain rfl : v3 = _ := hv3
   show wpList _ _ _ _ _ _
   simp only [Grow.dstOf, zz1, zz2, zz3, zz4, Act.put, zz5, zz6, zz7]
   go_wp2
   exact ⟨rfl, Below.refl _ _, rfl⟩
  case o12g | o13g | o16g =>
   intro w' hb v1 hv1
   obtain rfl : v1 = _ := hv1
   have c_y_0' := zzc hb c_y_0
   have c_y_1' := zzc hb c_y_1
   have c_x_0' := zzc hb c_x_0
   have c_x_1' := zzc hb c_x_1
   have c_m_0' := zzc hb c_m_0
   have c_m_1' := zzc hb c_m_1
   show wpList _ _ _ _ _ _
   simp only [Grow.dstOf, zz1, zz2, zz3, zz4, Act.put, zz5, zz6, zz7]
   go_wp2
   exact ⟨rfl, Below.refl _ _, rfl⟩
  case o14g =>
   intro w' hb v1 hv1 v2 hv2 v3 hv3
   obtain rfl : v1 = _ := hv1
   obtain rfl : v2 = _ := hv2
   obtain rfl : v3 = _ := hv3
   show wpList _ _ _ _ _ _
   simp only [Grow.dstOf, zz1, zz2, zz3, zz4, Act.put, zz5, zz6, zz7]
   go_wp2_with fail
   refine (HMD.out w' (HT0.out.ext (ext_trans HW.out hb))).mono ?_
   rintro e wz ⟨rfl, hbz⟩
   go_wp2
   exact ⟨rfl, hbz, rfl⟩
  case o15g =>
   intro w' hb v1 hv1
   obtain rfl : v1 = _ := hv1
   show wpList _ _ _ _ _ _
   simp only [Grow.dstOf, zz1, zz2, zz3, zz4, Act.put, zz5, zz6, zz7]
   go_wp2_with fail
   refine (HWO.out w' (HT0.out.ext (ext_trans HW.out hb))).mono ?_
   rintro e wz ⟨rfl, hbz⟩
   go_wp2
   exact ⟨rfl, hbz, rfl⟩
  case o17g =>
   intro w' hb v1 hv1 v2 hv2 v3 hv3
   obtain rfl : v1 = _ := hv1
   obtain rfl : v2 = _ := hv2
   obtain rfl : v3 = _ := hv3
   show wpList _ _ _ _ _ _
   simp only [Grow.dstOf, zz1, zz2, zz3, zz4, Act.put, zz5, zz6, zz7]
   go_wp2_with fail
   refine (HME.out w' (HT0.out.ext (ext_trans HW.out hb))).mono ?_
   rintro e wz ⟨rfl, hbz⟩
   go_wp2
   exact ⟨rfl, hbz, rfl⟩
  case o18g =>
   intro w' hb v1 hv1 v2 hv2 v3 hv3
   obtain rfl : v1 = _ := hv1
   obtain rfl : v2 = _ := hv2
   obtain rfl : v3 = _ := hv3
   show wpList _ _ _ _ _ _
   simp only [Grow.dstOf, zz1, zz2, zz3, zz4, Act.put, zz5, zz6, zz7]
   go_wp2_with fail
   refine (HLE.out w' (HT0.out.ext (ext_trans HW.out hb))).mono ?_
   rintro e wz ⟨rfl, hbz⟩
   go_wp2
   exact ⟨rfl, hbz, rfl⟩
  intro w7' hbz u0 hu0 u1 hu1 u2 hu2 u3 hu3 u4 hu4 u5 hu5 u6 hu6 u7 hu7 u8 hu8 u9 hu9 u10 hu10 u11 hu11 u12 hu12 u13 hu13 u14 hu14 u15 hu15 u16 hu16 u17 hu17 u18 hu18 u19 hu19
  obtain rfl : u11 = _ := hu11
  obtain rfl : u19 = _ := hu19
  clear hu0 hu1 hu2 hu3 hu4 hu5 hu6 hu7 hu8 hu9 hu10 hu12 hu13 hu14 hu15 hu16 hu17 hu18
  replace HR_m := Lib.hid (HR_m.out.ext hbz)
  replace HR_x := Lib.hid (HR_x.out.ext hbz)
  replace HR_y := Lib.hid (HR_y.out.ext hbz)
  replace HW := Lib.hid (ext_trans HW.out hbz)
  clear c_m_0 c_m_1 c_x_0 c_x_1 c_y_0 c_y_1
  clear hbz
  show wpList _ _ _ _ _ _
  simp only [Act.put, zz5, zz6, zz7]
  go_wp2
  go_ret
  exact ⟨by simp, HW.out⟩
 ·have HZ : Hid (lo = 0 ∧ hi = 0) := Lib.hid (by rcases HC.out with h | h; exact h.2; exact absurd h.1 h0)
  obtain rfl := HZ.out.1
  obtain rfl := HZ.out.2
  have hne : (f != 0) = true := by simpa using h0
  clear HZ
  go_wp2
  go_ret
  exact ⟨by simp, HW.out⟩
end Nm
end Go.Proofs.YtiieckboccbhhaaGreatDoor
