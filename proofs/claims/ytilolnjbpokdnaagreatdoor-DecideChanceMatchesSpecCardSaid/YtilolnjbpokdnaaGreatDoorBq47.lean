/- Need of the program. Printed by gen_pneed.py. The walk of the law of chances: for every test, all numbers and chances it returns true, where the table of strconv lies. Printed by gen_lawcha.py. -/
import Derived.Test.YtilolnjbpokdnaaGreatDoorBq45
import Derived.Test.YtilolnjbpokdnaaGreatDoorBq38
import Derived.Test.YtilolnjbpokdnaaGreatDoorBq40
import Derived.Test.YtilolnjbpokdnaaGreatDoorBq26
import Derived.Test.YtilolnjbpokdnaaGreatDoorBq31
import Derived.Test.YtilolnjbpokdnaaGreatDoorBq37
import Derived.Test.YtilolnjbpokdnaaGreatDoorBq46
namespace Go.Proofs.YtilolnjbpokdnaaGreatDoor
open Go.RowKit
namespace Ch
open _root_.Go.Proofs.YtilolnjbpokdnaaGreatDoor.Nm
structure TsOk (w : World) (ts : List X3) (a : Option Addr) (c : Nat) (g : Nat → Rat) : Prop where
 sl : Sl w (.slice a 9 c) 9 (ts.flatMap x3L)
 xr : ∀ (i : Nat) (t : X3), ts[i]? = some t → XR w (x3V t) (g i)
theorem TsOk.ext {w w' : World} {ts : List X3} {a : Option Addr} {c : Nat} {g : Nat → Rat} (h : TsOk w ts a c g) (hb : Below w.heap.size w w') : TsOk w' ts a c g := ⟨h.sl.ext hb, fun i t ht => (h.xr i t ht).ext hb⟩
def PNeedPost (w : World) (r : Option Nat) (f : Int) (e : Ending) (w' : World) : Prop := e = .returned (.tuple #[.int .i64 (lnN r), .bool (lnK r), .int .i64 f]) ∧ Below w.heap.size w w'
set_option maxRecDepth 100000 in
set_option maxHeartbeats 16000000 in
theorem progNeed_at (d k : Int) (n m : ByteArray) (hn : n.size ≤ maxLen) (hm : m.size ≤ maxLen) (z o : Int) (p q : ByteArray) (hp : p.size ≤ maxLen) (hq : q.size ≤ maxLen) (w : World) : Calls Tryz.prog 20 #[.agg #[.int .i64 d, .int .i64 k, .string n, .string m], .int .i64 z, .int .i64 o, .agg #[.string p, .string q]] w (PNeedPost w (ndO d k n m z o p q) (ndF d k n m z o p q)) := by
 go_enter Tryz.func20, Tryz.ntmps20
 go_upto_region 1 with (fail)
 refine wp_box2 fun w1' hsz hbW hA0 hA1 => ?_
 clear hsz
 have HB_t := Lib.hid hA0
 have HB_y := Lib.hid hA1
 have HW := Lib.hid hbW
 clear hbW hA0 hA1
 have c_t_0 : w1'.cell? ⟨w.heap.size, 0, none⟩ = some (.int .i64 d) := HB_t.out.2 0
 have c_t_1 : w1'.cell? ⟨w.heap.size, 1, none⟩ = some (.int .i64 k) := HB_t.out.2 1
 have c_t_2 : w1'.cell? ⟨w.heap.size, 2, none⟩ = some (.string n) := HB_t.out.2 2
 have c_t_3 : w1'.cell? ⟨w.heap.size, 3, none⟩ = some (.string m) := HB_t.out.2 3
 go_wp2_with fail
 refine (readTest_at d k n m hn hm w1').mono ?_
 rintro e w2' ⟨dd, kk, b, a1, n1, c1, a2, n2, c2, rfl, hbt, hbz⟩
 have HBT := Lib.hid hbt
 clear hbt
 replace HB_t := Lib.hid (HB_t.out.ext hbz)
 replace HB_y := Lib.hid (HB_y.out.ext hbz)
 replace HW := Lib.hid (ext_trans HW.out hbz)
 clear c_t_0 c_t_1 c_t_2 c_t_3
 clear hbz
 go_upto_region 2 with (fail)
 refine wp_box1 fun w3' hsz hbz hC => ?_
 replace HBT := Lib.hid (fun h => And.intro (HBT.out h).1 (And.intro (HBT.out h).2.1 ((HBT.out h).2.2.ext hbz)))
 clear hsz
 have lt_t_b : w.heap.size < w2'.heap.size := HB_t.out.1
 have lt_y_b : (w.heap.size + 1) < w2'.heap.size := HB_y.out.1
 have le_b : w.heap.size ≤ w2'.heap.size := HW.out.size
 replace HB_t := Lib.hid (HB_t.out.ext hbz)
 replace HB_y := Lib.hid (HB_y.out.ext hbz)
 replace HW := Lib.hid (ext_trans HW.out hbz)
 clear hbz
 have HB_b := Lib.hid hC
 clear hC
 generalize w2'.heap.size = b_b at *
 by_cases hf : testF d k n m = 0
 ·have hne : (testF d k n m != 0) = false := by simp [hf]
  by_cases hz : 0 ≤ z ∧ z ≤ 1000
  ·by_cases ho : 0 ≤ o ∧ o ≤ 1000
   ·go_wp2_with fail
    refine (dwithin_yes _ _ _ (by omega) (by omega) w3').mono ?_
    rintro e w' ⟨rfl, rfl⟩
    go_wp2_with fail
    refine (dwithin_yes _ _ _ (by omega) (by omega) w3').mono ?_
    rintro e w' ⟨rfl, rfl⟩
    have HF : Hid (ndF d k n m z o p q = missF p q) := Lib.hid (by unfold ndF; rw [if_neg (fun h => h hf), if_pos (by unfold ndR; omega)])
    have c_y_0 : w3'.cell? ⟨(w.heap.size + 1), 0, none⟩ = some (.string p) := HB_y.out.2 0
    have c_y_1 : w3'.cell? ⟨(w.heap.size + 1), 1, none⟩ = some (.string q) := HB_y.out.2 1
    go_wp2_with fail
    refine (readMiss_at p q hp hq w3').mono ?_
    rintro e w4' ⟨bx, a3, n3, c3, a4, n4, c4, rfl, hx9, hbz⟩
    have HX9 := Lib.hid hx9
    have HBZM := Lib.hid hbz
    clear hx9
    replace HB_t := Lib.hid (HB_t.out.ext hbz)
    replace HB_y := Lib.hid (HB_y.out.ext hbz)
    replace HB_b := Lib.hid (HB_b.out.ext hbz)
    replace HW := Lib.hid (ext_trans HW.out hbz)
    clear c_y_0 c_y_1
    clear hbz
    go_upto_region 7 with (fail)
    refine wp_box1 fun w5' hsz hbz hC => ?_
    replace HX9 := Lib.hid (fun h => (HX9.out h).ext hbz)
    replace HBT := Lib.hid (fun h => And.intro (HBT.out h).1 (And.intro (HBT.out h).2.1 (((HBT.out h).2.2.ext HBZM.out).ext hbz)))
    clear hsz
    have lt_t_x : w.heap.size < w4'.heap.size := HB_t.out.1
    have lt_y_x : (w.heap.size + 1) < w4'.heap.size := HB_y.out.1
    have lt_b_x : b_b < w4'.heap.size := HB_b.out.1
    have le_x : w.heap.size ≤ w4'.heap.size := HW.out.size
    replace HB_t := Lib.hid (HB_t.out.ext hbz)
    replace HB_y := Lib.hid (HB_y.out.ext hbz)
    replace HB_b := Lib.hid (HB_b.out.ext hbz)
    replace HW := Lib.hid (ext_trans HW.out hbz)
    clear hbz
    have HB_x := Lib.hid hC
    clear hC
    generalize w4'.heap.size = b_x at *
    by_cases hm9 : missF p q = 0
    ·have hne2 : (missF p q != 0) = false := by simp [hm9]
     obtain ⟨d1, d3, k1, k5, _⟩ := test_ok hf
     obtain ⟨rfl, hkk, hbo⟩ := HBT.out hf
     obtain ⟨kn, rfl⟩ : ∃ x : Nat, k = (x : Int) := ⟨k.toNat, by omega⟩
     obtain rfl : kk = (kn : Int) := hkk
     obtain ⟨zn, rfl⟩ : ∃ x : Nat, z = (x : Int) := ⟨z.toNat, by omega⟩
     obtain ⟨on, rfl⟩ : ∃ x : Nat, o = (x : Int) := ⟨o.toNat, by omega⟩
     have hzn : zn ≤ 1000 := by omega
     have hon : on ≤ 1000 := by omega
     obtain ⟨Q, hQ⟩ : ∃ Q, (rQ n m)⁻¹ = Q := ⟨_, rfl⟩
     have hbo' := hbo
     rw [hQ] at hbo'
     have HBO := Lib.hid hbo'
     have hxr := HX9.out hm9
     obtain ⟨x, hx, hrx, hpx, hqx, x0, x1q, xlq⟩ := lawLine.miss_parts hm9
     clear hpx hqx
     rw [hrx] at hxr
     have HXR := Lib.hid hxr
     have hsx := Ln.small xlq (by omega) (by omega)
     have HSX := Lib.hid hsx
     obtain ⟨res, hres⟩ : ∃ r, lnFind (ndDec dd kn Q zn on x) 0 9 = r := ⟨_, rfl⟩
     have HO : Hid (ndF dd (kn : Int) n m (zn : Int) (on : Int) p q = 0 ∧ ndO dd (kn : Int) n m (zn : Int) (on : Int) p q = res) := Lib.hid ⟨HF.out.trans hm9, by unfold ndO; rw [if_pos (HF.out.trans hm9), hrx, hQ]; exact hres⟩
     have HFI := Lib.hid hres
     have HSZ : Hid (∀ i, i ≤ 8 → Sz (chQ dd kn Q 8 zn on i)) := Lib.hid fun i hi => chQ_sz _ _ _ (by omega) hi hzn hon
     clear hf hbo hbo' hxr hx hrx x0 x1q xlq hsx hres hm9 HBT HX9 HF hQ k1 k5 hz ho
     have c_b_0 : w5'.cell? ⟨b_b, 0, none⟩ = some (.int .i64 dd) := HB_b.out.2 0
     have c_b_1 : w5'.cell? ⟨b_b, 1, none⟩ = some (.int .i64 (kn : Int)) := HB_b.out.2 1
     have c_b_2 : w5'.cell? ⟨b_b, 2, none⟩ = some (.bool b) := HB_b.out.2 2
     have c_b_3 : w5'.cell? ⟨b_b, 3, none⟩ = some (.slice a1 n1 c1) := HB_b.out.2 3
     have c_b_4 : w5'.cell? ⟨b_b, 4, none⟩ = some (.slice a2 n2 c2) := HB_b.out.2 4
     go_wp2_with fail
     refine ((by have h := chances_at dd kn Q b a1 n1 c1 a2 n2 c2 w5' HBO.out 8 zn on (by omega) hzn hon; exact h : Calls _ _ #[.agg #[.int .i64 dd, .int .i64 (kn : Int), .bool b, .slice a1 n1 c1, .slice a2 n2 c2], .int .i64 8, .int .i64 (zn : Int), .int .i64 (on : Int)] w5' (ChPost w5' dd kn Q 8 zn on))).mono ?_
     rintro e w6' ⟨ca, cc, ts, rfl, hsl, hlen, hts, hbz⟩
     have HTS : Hid (TsOk w6' ts ca cc (fun i => chQ dd kn Q 8 zn on i)) := Lib.hid ⟨hsl, hts⟩
     have HTL := Lib.hid hlen
     clear hsl hts hlen HBO
     replace HB_t := Lib.hid (HB_t.out.ext hbz)
     replace HB_y := Lib.hid (HB_y.out.ext hbz)
     replace HB_b := Lib.hid (HB_b.out.ext hbz)
     replace HB_x := Lib.hid (HB_x.out.ext hbz)
     replace HXR := Lib.hid (HXR.out.ext hbz)
     replace HW := Lib.hid (ext_trans HW.out hbz)
     clear c_b_0 c_b_1 c_b_2 c_b_3 c_b_4
     clear hbz
     clear HB_b
     go_wp2
     go_loopw [47] (fun i' wr => ∃ i : Nat, i ≤ 9 ∧ i' = .int .i64 (i : Int) ∧ Hid (lnFind (ndDec dd kn Q zn on x) i (9 - i) = res) ∧ (Box wr w.heap.size #[.int .i64 dd, .int .i64 (kn : Int), .string n, .string m]) ∧ (Box wr (w.heap.size + 1) #[.string p, .string q]) ∧ (Box wr b_x #[.bool bx, .slice a3 n3 c3, .slice a4 n4 c4]) ∧ (XR wr (.agg #[.bool bx, .slice a3 n3 c3, .slice a4 n4 c4]) x) ∧ (TsOk wr ts ca cc (fun i => chQ dd kn Q 8 zn on i)) ∧ (Below w.heap.size w wr)) (fun i' _ => 9 - (intOf i').toNat)
     case atStart => exact ⟨0, by omega, by rfl, HFI, HB_t.out, HB_y.out, HB_x.out, HXR.out, HTS.out, HW.out⟩
     case round =>
      obtain ⟨i, hi, rfl, HFJ, q_HB_t, q_HB_y, q_HB_x, q_HXR, q_HTS, q_HW⟩ := hrel
      clear HB_t HB_y HB_x HXR HTS HW
      clear HFI
      have HB_t := Lib.hid q_HB_t
      have HB_y := Lib.hid q_HB_y
      have HB_x := Lib.hid q_HB_x
      have HXR := Lib.hid q_HXR
      have HTS := Lib.hid q_HTS
      have HW := Lib.hid q_HW
      clear q_HB_t q_HB_y q_HB_x q_HXR q_HTS q_HW
      generalize hX : wr = Y at *
      clear hX
      by_cases hlt : i < 9
      ·have hlx : i < ts.length := by rw [HTL.out]; exact hlt
       have hgk := List.getElem?_eq_getElem hlx
       generalize ts[i] = t at hgk
       have HXT := Lib.hid (HTS.out.xr i t hgk)
       obtain ⟨pb, po, hp9, hcs⟩ := HTS.out.sl.elem (f := x3L) (fun _ => rfl) (by omega : 0 < 3) hgk
       obtain ⟨tb, ta1, tn1, tc1, ta2, tn2, tc2⟩ := t
       have e0 : Y.cell? ⟨pb, po + i * 3, none⟩ = some (.bool tb) := hcs 0 _ rfl
       have e1 : Y.cell? ⟨pb, po + i * 3 + 1, none⟩ = some (.slice ta1 tn1 tc1) := hcs 1 _ rfl
       have e2 : Y.cell? ⟨pb, po + i * 3 + 2, none⟩ = some (.slice ta2 tn2 tc2) := hcs 2 _ rfl
       clear hcs hgk hlx
       subst hp9
       have hi0 : (0 : Int) ≤ (i : Int) := Int.natCast_nonneg _
       have hi1 : (i : Int) < 9 := by omega
       have hi3 : (i : Int).toNat = i := by omega
       obtain ⟨k9, hk9⟩ : ∃ x, 9 - i = x + 1 := ⟨8 - i, by omega⟩
       have HK9 : Hid (9 - (i + 1) = k9) := Lib.hid (by omega)
       rw [hk9] at HFJ
       clear hk9
       obtain ⟨C, hC⟩ : ∃ C, chQ dd kn Q 8 zn on i = C := ⟨_, rfl⟩
       obtain ⟨v, hv⟩ : ∃ v, cmpQ C x = v := ⟨_, rfl⟩
       have HDV : Hid (ndDec dd kn Q zn on x i = decide (0 ≤ v)) := Lib.hid (by unfold ndDec; rw [hC, ← hv]; exact decide_eq_decide.2 cmpQ_ge.symm)
       have HSC : Hid (Sz C) := Lib.hid (by rw [← hC]; exact HSZ.out i (by omega))
       have HXT2 : Hid (XR Y (.agg #[.bool tb, .slice ta1 tn1 tc1, .slice ta2 tn2 tc2]) C) := Lib.hid (by rw [← hC]; exact HXT.out)
       have HV := Lib.hid hv
       clear hC hv HXT
       go_upto_region 12 with (fail)
       refine wp_box1 fun w7' hsz hbz hC => ?_
       clear hsz
       have lt_t_c : w.heap.size < Y.heap.size := HB_t.out.1
       have lt_y_c : (w.heap.size + 1) < Y.heap.size := HB_y.out.1
       have lt_x_c : b_x < Y.heap.size := HB_x.out.1
       have le_c : w.heap.size ≤ Y.heap.size := HW.out.size
       replace HB_t := Lib.hid (HB_t.out.ext hbz)
       replace HB_y := Lib.hid (HB_y.out.ext hbz)
       replace HB_x := Lib.hid (HB_x.out.ext hbz)
       replace HXR := Lib.hid (HXR.out.ext hbz)
       replace HTS := Lib.hid (HTS.out.ext hbz)
       replace HXT2 := Lib.hid (HXT2.out.ext hbz)
       replace HW := Lib.hid (ext_trans HW.out hbz)
       clear hbz e0 e1 e2
       have HB_c := Lib.hid hC
       clear hC
       generalize Y.heap.size = b_c at *
       have c_c_0 : w7'.cell? ⟨b_c, 0, none⟩ = some (.bool tb) := HB_c.out.2 0
       have c_c_1 : w7'.cell? ⟨b_c, 1, none⟩ = some (.slice ta1 tn1 tc1) := HB_c.out.2 1
       have c_c_2 : w7'.cell? ⟨b_c, 2, none⟩ = some (.slice ta2 tn2 tc2) := HB_c.out.2 2
       have c_x_0 : w7'.cell? ⟨b_x, 0, none⟩ = some (.bool bx) := HB_x.out.2 0
       have c_x_1 : w7'.cell? ⟨b_x, 1, none⟩ = some (.slice a3 n3 c3) := HB_x.out.2 1
       have c_x_2 : w7'.cell? ⟨b_x, 2, none⟩ = some (.slice a4 n4 c4) := HB_x.out.2 2
       go_wp2_with fail
       refine (xcmp_at C x _ _ w7' HXT2.out HXR.out HSC.out.1 HSC.out.2 (by have := HSX.out.1; omega) (by have := HSX.out.2; omega)).mono ?_
       rintro e w8' ⟨rfl, hbz⟩
       rw [HV.out]
       replace HB_t := Lib.hid (HB_t.out.ext hbz)
       replace HB_y := Lib.hid (HB_y.out.ext hbz)
       replace HB_x := Lib.hid (HB_x.out.ext hbz)
       replace HB_c := Lib.hid (HB_c.out.ext hbz)
       replace HXR := Lib.hid (HXR.out.ext hbz)
       replace HTS := Lib.hid (HTS.out.ext hbz)
       replace HXT2 := Lib.hid (HXT2.out.ext hbz)
       replace HW := Lib.hid (ext_trans HW.out hbz)
       clear c_c_0 c_c_1 c_c_2 c_x_0 c_x_1 c_x_2
       clear hbz
       by_cases hv0 : 0 ≤ v
       ·have HY : Hid (res = some i) := Lib.hid (by rw [← HFJ.out]; exact lnFind_hit (by rw [HDV.out, decide_eq_true hv0]))
        go_wp2
        exact bodyPost_ret (v := .tuple #[.int .i64 (i : Int), .bool true, .int .i64 0]) (by simp [results, Tryz.results20, go_sem]) rfl ⟨by rw [HO.out.1, HO.out.2, HY.out]; rfl, HW.out⟩
       ·have HY : Hid (lnFind (ndDec dd kn Q zn on x) (i + 1) (9 - (i + 1)) = res) := Lib.hid (by rw [HK9.out, ← HFJ.out]; exact (lnFind_step (by rw [HDV.out, decide_eq_false hv0])).symm)
        have hv1 : v < 0 := by omega
        go_wp2
        go_roundw
        case rel => exact ⟨i + 1, by omega, by go_num, HY, HB_t.out, HB_y.out, HB_x.out, HXR.out, HTS.out, HW.out⟩
        case measure => simp [intOf]; omega
      ·have hi9 : i = 9 := by omega
       subst hi9
       have HV : Hid (res = none) := Lib.hid HFJ.out.symm
       go_wp2
       exact bodyPost_ret (v := .tuple #[.int .i64 0, .bool false, .int .i64 0]) (by simp [results, Tryz.results20, go_sem]) rfl ⟨by rw [HO.out.1, HO.out.2, HV.out]; rfl, HW.out⟩
    ·have HO : Hid (ndF d k n m z o p q = missF p q ∧ ndO d k n m z o p q = none) := Lib.hid ⟨HF.out, by unfold ndO; rw [if_neg (by rw [HF.out]; exact hm9)]⟩
     have hne2 : (missF p q != 0) = true := by simp [hm9]
     clear hm9 hf HBT HX9 hz ho
     go_wp2
     exact bodyPost_ret (v := .tuple #[.int .i64 0, .bool false, .int .i64 (missF p q)]) (by simp [results, Tryz.results20, go_sem]) rfl ⟨by rw [HO.out.1, HO.out.2]; rfl, HW.out⟩
   ·have HO : Hid (ndF d k n m z o p q = 1 ∧ ndO d k n m z o p q = none) := Lib.hid (by
     have e : ndF d k n m z o p q = 1 := by unfold ndF; rw [if_neg (fun h => h hf), if_neg (by unfold ndR; omega)]
     exact ⟨e, by unfold ndO; rw [if_neg (by rw [e]; first | decide | assumption)]⟩)
    go_wp2_with fail
    refine (dwithin_yes _ _ _ (by omega) (by omega) w3').mono ?_
    rintro e w' ⟨rfl, rfl⟩
    go_wp2_with fail
    refine (dwithin_no _ _ _ (by omega) w3').mono ?_
    rintro e w' ⟨rfl, rfl⟩
    clear hf HBT hz ho
    go_wp2
    exact bodyPost_ret (v := .tuple #[.int .i64 0, .bool false, .int .i64 (1)]) (by simp [results, Tryz.results20, go_sem]) rfl ⟨by rw [HO.out.1, HO.out.2]; rfl, HW.out⟩
  ·have HO : Hid (ndF d k n m z o p q = 1 ∧ ndO d k n m z o p q = none) := Lib.hid (by
    have e : ndF d k n m z o p q = 1 := by unfold ndF; rw [if_neg (fun h => h hf), if_neg (by unfold ndR; omega)]
    exact ⟨e, by unfold ndO; rw [if_neg (by rw [e]; first | decide | assumption)]⟩)
   go_wp2_with fail
   refine (dwithin_no _ _ _ (by omega) w3').mono ?_
   rintro e w' ⟨rfl, rfl⟩
   clear hf HBT hz
   go_wp2
   exact bodyPost_ret (v := .tuple #[.int .i64 0, .bool false, .int .i64 (1)]) (by simp [results, Tryz.results20, go_sem]) rfl ⟨by rw [HO.out.1, HO.out.2]; rfl, HW.out⟩
 ·have HO : Hid (ndF d k n m z o p q = testF d k n m ∧ ndO d k n m z o p q = none) := Lib.hid (by
   have e : ndF d k n m z o p q = testF d k n m := by unfold ndF; rw [if_pos hf]
   exact ⟨e, by unfold ndO; rw [if_neg (by rw [e]; first | decide | assumption)]⟩)
  have hne : (testF d k n m != 0) = true := by simp [hf]
  clear hf HBT
  go_wp2
  exact bodyPost_ret (v := .tuple #[.int .i64 0, .bool false, .int .i64 (testF d k n m)]) (by simp [results, Tryz.results20, go_sem]) rfl ⟨by rw [HO.out.1, HO.out.2]; rfl, HW.out⟩
end Ch
end Go.Proofs.YtilolnjbpokdnaaGreatDoor
namespace Go.Proofs.YtilolnjbpokdnaaGreatDoor.lawCha
open Go.RowKit _root_.Go.Proofs.YtilolnjbpokdnaaGreatDoor.Nm _root_.Go.Proofs.YtilolnjbpokdnaaGreatDoor.Nt
open _root_.Go.Proofs.YtilolnjbpokdnaaGreatDoor.Ch (chanN chanD chanF ndF ndO chance_at progNeed_at)
set_option maxRecDepth 100000 in
set_option maxHeartbeats 16000000 in
theorem walk (d k : Int) (n m : ByteArray) (hn : n.size ≤ maxLen) (hm : m.size ≤ maxLen) (p z o : Int) (a b : ByteArray) (ha : a.size ≤ maxLen) (hb' : b.size ≤ maxLen) (w : World) (ht : Tab w) :
  Calls Tryz.prog 4 #[.agg #[.int .i64 d, .int .i64 k, .string n, .string m], .int .i64 p, .int .i64 z, .int .i64 o, .agg #[.string a, .string b]] w fun e w' => e = .returned (.bool true) ∧ Below w.heap.size w w' := by
 have HSZ := Lib.hid (And.intro (And.intro hn hm) (And.intro ha hb'))
 clear hn hm ha hb'
 obtain ⟨cn, h1⟩ : ∃ x, chanN d k n m p z o = x := ⟨_, rfl⟩
 obtain ⟨cd, h2⟩ : ∃ x, chanD d k n m p z o = x := ⟨_, rfl⟩
 obtain ⟨cf, h3⟩ : ∃ x, chanF d k n m p z o = x := ⟨_, rfl⟩
 have HC := Lib.hid (And.intro h1 (And.intro h2 h3))
 clear h1 h2 h3
 obtain ⟨no, h1⟩ : ∃ x, ndO d k n m z o a b = x := ⟨_, rfl⟩
 obtain ⟨nf, h2⟩ : ∃ x, ndF d k n m z o a b = x := ⟨_, rfl⟩
 have HN := Lib.hid (And.intro h1 h2)
 clear h1 h2
 go_enter Tryz.func4, Tryz.ntmps4
 have HT0 := Lib.hid ht
 clear ht
 go_upto_region 1 with (fail)
 refine wp_box2 fun w1' hsz hbW hA0 hA1 => ?_
 clear hsz
 have HB_t := Lib.hid hA0
 have HB_q := Lib.hid hA1
 have HW := Lib.hid hbW
 clear hbW hA0 hA1
 have c_t_0 : w1'.cell? ⟨w.heap.size, 0, none⟩ = some (.int .i64 d) := HB_t.out.2 0
 have c_t_1 : w1'.cell? ⟨w.heap.size, 1, none⟩ = some (.int .i64 k) := HB_t.out.2 1
 have c_t_2 : w1'.cell? ⟨w.heap.size, 2, none⟩ = some (.string n) := HB_t.out.2 2
 have c_t_3 : w1'.cell? ⟨w.heap.size, 3, none⟩ = some (.string m) := HB_t.out.2 3
 go_wp2_with fail
 refine (chance_at d k n m HSZ.out.1.1 HSZ.out.1.2 p z o w1').mono ?_
 rintro e w2' ⟨rfl, hbz⟩
 rw [HC.out.1, HC.out.2.1, HC.out.2.2]
 replace HB_t := Lib.hid (HB_t.out.ext hbz)
 replace HB_q := Lib.hid (HB_q.out.ext hbz)
 replace HW := Lib.hid (ext_trans HW.out hbz)
 clear c_t_0 c_t_1 c_t_2 c_t_3
 clear hbz
 go_upto_region 2 with (fail)
 refine wp_box1 fun w3' hsz hbz hC => ?_
 clear hsz
 have lt_t_x : w.heap.size < w2'.heap.size := HB_t.out.1
 have lt_q_x : (w.heap.size + 1) < w2'.heap.size := HB_q.out.1
 have le_x : w.heap.size ≤ w2'.heap.size := HW.out.size
 replace HB_t := Lib.hid (HB_t.out.ext hbz)
 replace HB_q := Lib.hid (HB_q.out.ext hbz)
 replace HW := Lib.hid (ext_trans HW.out hbz)
 clear hbz
 have HB_x := Lib.hid hC
 clear hC
 generalize w2'.heap.size = b_x at *
 have c_t_0 : w3'.cell? ⟨w.heap.size, 0, none⟩ = some (.int .i64 d) := HB_t.out.2 0
 have c_t_1 : w3'.cell? ⟨w.heap.size, 1, none⟩ = some (.int .i64 k) := HB_t.out.2 1
 have c_t_2 : w3'.cell? ⟨w.heap.size, 2, none⟩ = some (.string n) := HB_t.out.2 2
 have c_t_3 : w3'.cell? ⟨w.heap.size, 3, none⟩ = some (.string m) := HB_t.out.2 3
 go_wp2_with fail
 refine (refChance_at d k n m HSZ.out.1.1 HSZ.out.1.2 p z o w3' (HT0.out.ext HW.out)).mono ?_
 rintro e w4' ⟨rfl, hbz⟩
 rw [HC.out.1, HC.out.2.1, HC.out.2.2]
 replace HB_t := Lib.hid (HB_t.out.ext hbz)
 replace HB_q := Lib.hid (HB_q.out.ext hbz)
 replace HB_x := Lib.hid (HB_x.out.ext hbz)
 replace HW := Lib.hid (ext_trans HW.out hbz)
 clear c_t_0 c_t_1 c_t_2 c_t_3
 clear hbz
 go_upto_region 3 with (fail)
 refine wp_box1 fun w5' hsz hbz hC => ?_
 clear hsz
 have lt_t_y : w.heap.size < w4'.heap.size := HB_t.out.1
 have lt_q_y : (w.heap.size + 1) < w4'.heap.size := HB_q.out.1
 have lt_x_y : b_x < w4'.heap.size := HB_x.out.1
 have le_y : w.heap.size ≤ w4'.heap.size := HW.out.size
 replace HB_t := Lib.hid (HB_t.out.ext hbz)
 replace HB_q := Lib.hid (HB_q.out.ext hbz)
 replace HB_x := Lib.hid (HB_x.out.ext hbz)
 replace HW := Lib.hid (ext_trans HW.out hbz)
 clear hbz
 have HB_y := Lib.hid hC
 clear hC
 generalize w4'.heap.size = b_y at *
 have c_t_0 : w5'.cell? ⟨w.heap.size, 0, none⟩ = some (.int .i64 d) := HB_t.out.2 0
 have c_t_1 : w5'.cell? ⟨w.heap.size, 1, none⟩ = some (.int .i64 k) := HB_t.out.2 1
 have c_t_2 : w5'.cell? ⟨w.heap.size, 2, none⟩ = some (.string n) := HB_t.out.2 2
 have c_t_3 : w5'.cell? ⟨w.heap.size, 3, none⟩ = some (.string m) := HB_t.out.2 3
 have c_q_0 : w5'.cell? ⟨(w.heap.size + 1), 0, none⟩ = some (.string a) := HB_q.out.2 0
 have c_q_1 : w5'.cell? ⟨(w.heap.size + 1), 1, none⟩ = some (.string b) := HB_q.out.2 1
 have c_x_0 : w5'.cell? ⟨b_x, 0, none⟩ = some (.string cn) := HB_x.out.2 0
 have c_x_1 : w5'.cell? ⟨b_x, 1, none⟩ = some (.string cd) := HB_x.out.2 1
 have c_y_0 : w5'.cell? ⟨b_y, 0, none⟩ = some (.string cn) := HB_y.out.2 0
 have c_y_1 : w5'.cell? ⟨b_y, 1, none⟩ = some (.string cd) := HB_y.out.2 1
 go_wp2_with fail
 refine (progNeed_at d k n m HSZ.out.1.1 HSZ.out.1.2 z o a b HSZ.out.2.1 HSZ.out.2.2 w5').mono ?_
 rintro e w6' ⟨rfl, hbz⟩
 rw [HN.out.1, HN.out.2]
 replace HB_t := Lib.hid (HB_t.out.ext hbz)
 replace HB_q := Lib.hid (HB_q.out.ext hbz)
 replace HB_x := Lib.hid (HB_x.out.ext hbz)
 replace HB_y := Lib.hid (HB_y.out.ext hbz)
 replace HW := Lib.hid (ext_trans HW.out hbz)
 clear c_t_0 c_t_1 c_t_2 c_t_3 c_q_0 c_q_1 c_x_0 c_x_1 c_y_0 c_y_1
 clear hbz
 have c_t_0 : w6'.cell? ⟨w.heap.size, 0, none⟩ = some (.int .i64 d) := HB_t.out.2 0
 have c_t_1 : w6'.cell? ⟨w.heap.size, 1, none⟩ = some (.int .i64 k) := HB_t.out.2 1
 have c_t_2 : w6'.cell? ⟨w.heap.size, 2, none⟩ = some (.string n) := HB_t.out.2 2
 have c_t_3 : w6'.cell? ⟨w.heap.size, 3, none⟩ = some (.string m) := HB_t.out.2 3
 have c_q_0 : w6'.cell? ⟨(w.heap.size + 1), 0, none⟩ = some (.string a) := HB_q.out.2 0
 have c_q_1 : w6'.cell? ⟨(w.heap.size + 1), 1, none⟩ = some (.string b) := HB_q.out.2 1
 go_wp2_with fail
 refine (refNeed_at d k n m HSZ.out.1.1 HSZ.out.1.2 z o a b HSZ.out.2.1 HSZ.out.2.2 w6' (HT0.out.ext HW.out)).mono ?_
 rintro e w7' ⟨rfl, hbz⟩
 rw [HN.out.1, HN.out.2]
 replace HB_t := Lib.hid (HB_t.out.ext hbz)
 replace HB_q := Lib.hid (HB_q.out.ext hbz)
 replace HB_x := Lib.hid (HB_x.out.ext hbz)
 replace HB_y := Lib.hid (HB_y.out.ext hbz)
 replace HW := Lib.hid (ext_trans HW.out hbz)
 clear c_t_0 c_t_1 c_t_2 c_t_3 c_q_0 c_q_1
 clear hbz
 generalize lnN no = ln at *
 generalize lnK no = lk at *
 go_wp2
 go_ret
 exact ⟨by simp, HW.out⟩
end Go.Proofs.YtilolnjbpokdnaaGreatDoor.lawCha
