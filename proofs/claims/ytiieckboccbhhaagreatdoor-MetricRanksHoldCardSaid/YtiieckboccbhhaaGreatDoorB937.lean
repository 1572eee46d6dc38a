/- Ranks of package metric. Printed by gen_ranks.py. -/
import Derived.Test.YtiieckboccbhhaaGreatDoorB908
import Derived.Test.YtiieckboccbhhaaGreatDoorB932
import Derived.Test.YtiieckboccbhhaaGreatDoorB936
import Derived.Test.YtiieckboccbhhaaGreatDoorB925
import Derived.Test.YtiieckboccbhhaaGreatDoorB923
import Derived.Test.YtiieckboccbhhaaGreatDoorB934
namespace Go.Proofs.YtiieckboccbhhaaGreatDoor
open Go.RowKit
namespace Nm
open _root_.Go.Proofs.YtiieckboccbhhaaGreatDoor.Nt (RH RH.cell RH.box RH.row RH.lt RH.new RH.ext RH.fre RH.set RH.other FX wp_frs1 cs_other')

/-- a number in memory, as the frame carries it -/
def XH (w : World) (v : Value) (q : Rat) : Prop := XR w v q
theorem XH.ext {w w' : World} {v : Value} {q : Rat} (h : XH w v q) (hb : Below w.heap.size w w') : XH w' v q := XR.ext h hb
theorem noWq {A : Array Value} (h : A.all (fun u => !isWord u) = true) : ∀ (j : Nat) (u : Value), A[j]? = some u → isWord u = false := fun j u hu => by
 have h1 := Array.all_eq_true_iff_forall_mem.1 h u (Array.mem_of_getElem? hu)
 simpa using h1
theorem XH.far {w w' : World} {b : Nat} {A : Array Value} {v : Value} {q : Rat} (h : XH w v q) (hA : Box w b A) (hn : ∀ (j : Nat) (u : Value), A[j]? = some u → isWord u = false) (hk : ∀ p : Addr, p.block ≠ b → w'.cell? p = w.cell? p) : XH w' v q := by
 obtain ⟨v1, v2, e, h1, h2⟩ := h
 exact ⟨v1, v2, e, h1.keepBox hA hn hk, h2.keepBox hA hn hk⟩
theorem xr_open {w : World} {v : Value} {q : Rat} (h : XR w v q) : ∃ b a1 n1 c1 a2 n2 c2, v = .agg #[.bool b, .slice a1 n1 c1, .slice a2 n2 c2] := by
 obtain ⟨a1, c1, a2, c2, rfl, _, _⟩ := h.open_
 exact ⟨_, _, _, _, _, _, _, rfl⟩
/-- .. if no fault was found -/
def XC (w : World) (f : Int) (v : Value) (q : Rat) : Prop := f = 0 → XR w v q
theorem XC.ext {w w' : World} {f : Int} {v : Value} {q : Rat} (h : XC w f v q) (hb : Below w.heap.size w w') : XC w' f v q := fun e => (h e).ext hb
def TP.rwm (N : Nat) (A : Array Value) (ty : TypeId) : TP := ⟨fun w v => ∃ g, v = .pointer (some ⟨g, 0, none⟩) ∧ N ≤ g ∧ RH w g A ty, fun _ _ _ hb h => by obtain ⟨g, h1, h2, h3⟩ := h; exact ⟨g, h1, h2, h3.ext hb⟩⟩
set_option maxRecDepth 100000 in
set_option maxHeartbeats 16000000 in
theorem metRanks_at (n m : Int) (a b : ByteArray) (ha : a.size ≤ maxLen) (hb : b.size ≤ maxLen) (w : World) : Calls Tryz.prog 8 #[.int .i64 n, .int .i64 m, .agg #[.string a, .string b]] w (RnPost w (rnLo n m a b) (rnHi n m a b) (rnF n m a b)) := by
 go_enter Tryz.func8, Tryz.ntmps8
 go_upto_region 1 with (fail)
 refine wp_frs1 fun w1' hbz hR0 => ?_
 have HR_a : Hid (RH w1' w.heap.size #[.string a, .string b] 23) := Lib.hid hR0
 have HW := Lib.hid hbz
 clear hbz hR0
 obtain ⟨c_a_0, c_a_1⟩ := zs2 HR_a.out
 go_wp2_with fail
 refine (checkMiss_at a b ha hb w1').mono ?_
 rintro e w2' ⟨x, a1, n1, c1, a2, n2, c2, rfl, hxr, hbz⟩
 obtain ⟨f, hf⟩ : ∃ f, missF a b = f := ⟨_, rfl⟩
 rw [hf] at hxr ⊢
 have HF := Lib.hid hf
 clear hf
 replace HR_a := Lib.hid (HR_a.out.ext hbz)
 replace HW := Lib.hid (ext_trans HW.out hbz)
 clear c_a_0 c_a_1
 clear hbz
 have HXR : Hid (XC w2' f (.agg #[.bool x, .slice a1 n1 c1, .slice a2 n2 c2]) (rQ a b)) := Lib.hid hxr
 clear hxr
 clear HR_a
 go_upto_region 2 with (fail)
 refine wp_frs1 fun w3' hbz hR0 => ?_
 have le_x : w.heap.size ≤ w2'.heap.size := HW.out.size
 replace HXR := Lib.hid (HXR.out.ext hbz)
 replace HW := Lib.hid (ext_trans HW.out hbz)
 clear hbz
 have HR_x : Hid (RH w3' w2'.heap.size #[.bool x, .slice a1 n1 c1, .slice a2 n2 c2] 43) := Lib.hid hR0
 clear hR0
 generalize w2'.heap.size = b_x at *
 by_cases h0 : f = 0
 ·subst h0
  have HX0 := Lib.hid (HXR.out rfl)
  clear HXR
  have HLN := Lib.hid (miss_ln HF.out)
  have HLH := Lib.hid (half_ln HF.out)
  have HQ01 := Lib.hid (miss_ok HF.out).2
  obtain ⟨q, hq⟩ : ∃ z, rQ a b = z := ⟨_, rfl⟩
  rw [hq] at HX0 HLN HLH HQ01
  have HQ := Lib.hid hq
  obtain ⟨h, hh⟩ : ∃ z, q / 2 = z := ⟨_, rfl⟩
  rw [hh] at HLH
  have HH := Lib.hid hh
  have HSQ := Lib.hid (HLN.out.sm (by decide) (by decide))
  have HSH := Lib.hid (HLH.out.sm (by decide) (by decide))
  clear hq hh HLN HLH
  have HX : Hid (XH w3' (.agg #[.bool x, .slice a1 n1 c1, .slice a2 n2 c2]) q) := Lib.hid (HX0.out)
  clear HX0
  by_cases hc : 1 ≤ n ∧ n ≤ 60
  ·go_wp2_with fail
   refine (mwithin_yes n 1 60 hc.1 hc.2 w3').mono ?_
   rintro e w4' ⟨rfl, hw9⟩
   have hbz : Below w3'.heap.size w3' w4' := by rw [← hw9]; exact Below.refl _ _
   clear hw9
   replace HR_x := Lib.hid (HR_x.out.ext hbz)
   replace HX := Lib.hid (HX.out.ext hbz)
   replace HW := Lib.hid (ext_trans HW.out hbz)
   clear hbz
   have hc1 := hc
   clear hc
   by_cases hc : 1 ≤ m ∧ m ≤ 999
   ·go_wp2_with fail
    refine (mwithin_yes m 1 999 hc.1 hc.2 w4').mono ?_
    rintro e w5' ⟨rfl, hw9⟩
    have hbz : Below w4'.heap.size w4' w5' := by rw [← hw9]; exact Below.refl _ _
    clear hw9
    replace HR_x := Lib.hid (HR_x.out.ext hbz)
    replace HX := Lib.hid (HX.out.ext hbz)
    replace HW := Lib.hid (ext_trans HW.out hbz)
    clear hbz
    obtain ⟨n', hn'⟩ : ∃ z : Nat, n = (z : Int) := ⟨n.toNat, by omega⟩
    obtain ⟨m', hm'⟩ : ∃ z : Nat, m = (z : Int) := ⟨m.toNat, by omega⟩
    subst hn'
    subst hm'
    have HN := Lib.hid (rn_yes (n := n') (m := m') HF.out (by unfold rnOk; omega))
    rw [HQ.out] at HN
    have hn60 : n' ≤ 60 := by omega
    have hm0 : m' ≤ 1000 := by omega
    clear hc hc1
    go_upto_region 6 with (fail)
    obtain ⟨c_x_0, c_x_1, c_x_2⟩ := zs3 HR_x.out
    refine Grow.wp_region_grow 4 [TP.eq (.agg #[.bool x, .slice a1 n1 c1, .slice a2 n2 c2]), TP.xq (2), TP.xq (h), TP.rwm w5'.heap.size #[.bool false, .slice none 0 0, .slice none 0 0] 43] [[], [], [0, 1], []] (by kernel_rfl) (by kernel_rfl) ⟨?o0g, ?o1g, ?o2g, ?o3g, trivial⟩ ?_
    case o0g =>
     intro w' hb
     have c_x_0' := zzc hb c_x_0
     have c_x_1' := zzc hb c_x_1
     have c_x_2' := zzc hb c_x_2
     show wpList _ _ _ _ _ _
     go_wp2
     exact ⟨rfl, Below.refl _ _, rfl⟩
    case o1g =>
     intro w' hb
     show wpList _ _ _ _ _ _
     go_wp2_with fail
     refine (mwhole_is 2 2 rfl (by decide) (by decide) w').mono ?_
     rintro e wz ⟨vz, rfl, hvz, hbz⟩
     go_wp2
     exact ⟨hvz, hbz, rfl⟩
    case o2g =>
     intro w' hb v1 hv1 v2 hv2
     obtain rfl : v1 = _ := hv1
     show wpList _ _ _ _ _ _
     simp only [Grow.dstOf, zz1, zz2, zz3, zz4, Act.put, zz5, zz6, zz7]
     go_wp2_with fail
     refine (mover_is q 2 h HH.out (by decide) _ _ w' (HX.out.ext hb) hv2 HSQ.out ((Ln.int (z := 2) (a := 1) (by decide)).sm (by decide) (by decide))).mono ?_
     rintro e wz ⟨vz, rfl, hvz, hbz⟩
     go_wp2
     exact ⟨hvz, hbz, rfl⟩
    case o3g =>
     intro w' hb
     show wpList _ _ _ _ _ _
     go_wp2
     exact ⟨⟨_, rfl, hb.size, RH.new _ _ _⟩, ext_alloc _ _, rfl⟩
    intro w6' hbz u0 hu0 u1 hu1 u2 hu2 u3 hu3
    have hx9 : XR w6' u2 h := hu2
    have hg9 : ∃ g, u3 = .pointer (some ⟨g, 0, none⟩) ∧ w5'.heap.size ≤ g ∧ RH w6' g #[.bool false, .slice none 0 0, .slice none 0 0] 43 := hu3
    clear hu0 hu1 hu2 hu3
    obtain ⟨b_h, rfl, hgY, hRg⟩ := hg9
    obtain ⟨xb, p1, m1, k1, p2, m2, k2, rfl⟩ := xr_open hx9
    have le_h : w.heap.size ≤ b_h := Nat.le_trans HW.out.size hgY
    clear hgY
    clear HR_x
    clear HX
    replace HW := Lib.hid (ext_trans HW.out hbz)
    clear c_x_0 c_x_1 c_x_2
    clear hbz
    have HR_h : Hid (RH w6' b_h #[.bool false, .slice none 0 0, .slice none 0 0] 43) := Lib.hid hRg
    clear hRg
    have HXH : Hid (XH w6' (.agg #[.bool xb, .slice p1 m1 k1, .slice p2 m2 k2]) h) := Lib.hid (hx9)
    clear hx9
    show wpList _ _ _ _ _ _
    simp only [Act.put, zz5, zz6, zz7]
    obtain ⟨c_h_0, c_h_1, c_h_2⟩ := zs3 HR_h.out
    have f_h_0 := HR_h.out.fre 0
    have f_h_1 := HR_h.out.fre 1
    have f_h_2 := HR_h.out.fre 2
    go_wp2
    obtain ⟨w7', hX⟩ : ∃ Z9, Z9 = (((w6'.setCell ⟨b_h, 0, none⟩ (.bool xb)).setCell ⟨b_h, 1, none⟩ (.slice p1 m1 k1)).setCell ⟨b_h, 2, none⟩ (.slice p2 m2 k2)) := ⟨_, rfl⟩
    rw [← hX]
    have n_h : Hid (RH w7' b_h #[.bool xb, .slice p1 m1 k1, .slice p2 m2 k2] 43) := by rw [hX]; exact Lib.hid ((((HR_h.out).set 0 (.bool xb)).set 1 (.slice p1 m1 k1)).set 2 (.slice p2 m2 k2))
    have HK_ : ∀ p : Addr, p.block ≠ b_h → w7'.cell? p = w6'.cell? p := fun p hp => by rw [hX]; exact (cs_other' hp).trans ((cs_other' hp).trans (cs_other' hp))
    have n_HXH : Hid (XH w7' (.agg #[.bool xb, .slice p1 m1 k1, .slice p2 m2 k2]) h) := Lib.hid (HXH.out.far HR_h.out.box (noWq (by simp [isWord])) HK_)
    have nW : Hid (Below w.heap.size w w7') := by rw [hX]; exact Lib.hid (zzw (zzw (zzw (HW.out) (by omega)) (by omega)) (by omega))
    clear c_h_0 c_h_1 c_h_2 f_h_0 f_h_1 f_h_2
    clear hX HK_ HW HR_h HXH
    have HR_h := n_h; clear n_h
    have HXH := n_HXH; clear n_HXH
    have HW := nW; clear nW
    go_loopw [6] (fun i wr => ∃ k : Nat, i = .int .i64 (k : Int) ∧ Hid (upLo n' m' h k) ∧ (RH wr b_h #[.bool xb, .slice p1 m1 k1, .slice p2 m2 k2] 43) ∧ (XH wr (.agg #[.bool xb, .slice p1 m1 k1, .slice p2 m2 k2]) h) ∧ (Below w.heap.size w wr)) (fun i _ => n' - (intOf i).toNat)
    case atStart => exact ⟨0, rfl, Lib.hid (upLo.zero _ _ _), HR_h.out, HXH.out, HW.out⟩
    case round =>
     clear HR_h HXH HW
     obtain ⟨k, rfl, HU, q_HR_h, q_HXH, q_HW⟩ := hrel
     have HR_h := Lib.hid q_HR_h
     have HXH := Lib.hid q_HXH
     have HW := Lib.hid q_HW
     clear q_HR_h q_HXH q_HW
     generalize hX : wr = X at *
     clear hX
     have hkn : k ≤ n' := HU.out.1
     have hk0 : (0 : Int) ≤ (k : Int) := Int.natCast_nonneg _
     by_cases hlt : k < n'
     ·have hli : decide ((k : Int) < (n' : Int)) = true := decide_eq_true (by omega)
      have hk59 : (k : Int) ≤ 59 := by omega
      obtain ⟨T, hT⟩ : ∃ z, tailQ n' m' (k + 1) = z := ⟨_, rfl⟩
      have HST := Lib.hid ((tailQ_ln hn60 hm0 (show k + 1 ≤ n' + 1 by omega)).sm (by decide) (by decide))
      rw [hT] at HST
      have HT := Lib.hid hT
      have HKK : Hid ((k : Int) + 1 = ((k + 1 : Nat) : Int)) := Lib.hid (by omega)
      have HTL := Lib.hid (fun W9 => (by have h9 := tail_at n' m' (k + 1) hn60 hm0 (by omega) W9; rw [HT.out, ← HKK.out] at h9; exact h9 : Calls Tryz.prog 18 #[.int .i64 (n' : Int), .int .i64 (m' : Int), .int .i64 ((k : Int) + 1)] W9 (XPost W9 T)))
      obtain ⟨z, hz⟩ : ∃ z, cmpQ T h = z := ⟨_, rfl⟩
      have HZ := Lib.hid hz
      clear hT hz
      by_cases ht : T ≤ h
      ·have hz0 : decide (z ≤ 0) = true := by rw [← HZ.out, cmpQ_le]; exact decide_eq_true ht
       have HTT := Lib.hid ht
       clear ht
       obtain ⟨c_h_0, c_h_1, c_h_2⟩ := zs3 HR_h.out
       go_upto_region 7 with (fail)
       refine Grow.wp_region_grow 12 [TP.eq (.int .i64 ((k : Int))), TP.eq (.int .i64 ((n' : Int))), TP.eq (.bool (true)), TP.eq (.bool (true)), TP.eq (.int .i64 ((n' : Int))), TP.eq (.int .i64 ((m' : Int))), TP.eq (.int .i64 ((k : Int))), TP.eq (.int .i64 ((k : Int) + 1)), TP.xq (T), TP.eq (.agg #[.bool xb, .slice p1 m1 k1, .slice p2 m2 k2]), TP.eq (.int .i64 (z)), TP.eq (.bool (true))] [[], [], [0, 1], [2], [3], [3], [3], [3, 6], [3, 4, 5, 7], [3], [3, 8, 9], [3, 10]] (by kernel_rfl) (by kernel_rfl) ⟨?o0a, ?o1a, ?o2a, ?o3a, ?o4a, ?o5a, ?o6a, ?o7a, ?o8a, ?o9a, ?o10a, ?o11a, trivial⟩ ?_
       case o0a | o1a =>
        intro w' hb
        show wpList _ _ _ _ _ _
        go_wp2
        exact ⟨rfl, Below.refl _ _, rfl⟩
       case o2a | o7a | o11a =>
        intro w' hb v1 hv1 v2 hv2
        obtain rfl : v1 = _ := hv1
        obtain rfl : v2 = _ := hv2
        show wpList _ _ _ _ _ _
        simp only [Grow.dstOf, zz1, zz2, zz3, zz4, Act.put, zz5, zz6, zz7]
        go_wp2
        exact ⟨rfl, Below.refl _ _, rfl⟩
       case o3a | o4a | o5a | o6a =>
        intro w' hb v1 hv1
        obtain rfl : v1 = _ := hv1
        show wpList _ _ _ _ _ _
        simp only [Grow.dstOf, zz1, zz2, zz3, zz4, Act.put, zz5, zz6, zz7]
        go_wp2
        exact ⟨rfl, Below.refl _ _, rfl⟩
       case o8a =>
        intro w' hb v1 hv1 v2 hv2 v3 hv3 v4 hv4
        obtain rfl : v1 = _ := hv1
        obtain rfl : v2 = _ := hv2
        obtain rfl : v3 = _ := hv3
        obtain rfl : v4 = _ := hv4
        show wpList _ _ _ _ _ _
        simp only [Grow.dstOf, zz1, zz2, zz3, zz4, Act.put, zz5, zz6, zz7]
        go_wp2_with fail
        refine (HTL.out w').mono ?_
        rintro e wz ⟨vz, rfl, hvz, hbz⟩
        go_wp2
        exact ⟨hvz, hbz, rfl⟩
       case o9a =>
        intro w' hb v1 hv1
        obtain rfl : v1 = _ := hv1
        have c_h_0' := zzc hb c_h_0
        have c_h_1' := zzc hb c_h_1
        have c_h_2' := zzc hb c_h_2
        show wpList _ _ _ _ _ _
        simp only [Grow.dstOf, zz1, zz2, zz3, zz4, Act.put, zz5, zz6, zz7]
        go_wp2
        exact ⟨rfl, Below.refl _ _, rfl⟩
       case o10a =>
        intro w' hb v1 hv1 v2 hv2 v3 hv3
        obtain rfl : v1 = _ := hv1
        obtain rfl : v3 = _ := hv3
        show wpList _ _ _ _ _ _
        simp only [Grow.dstOf, zz1, zz2, zz3, zz4, Act.put, zz5, zz6, zz7]
        go_wp2_with fail
        refine (xcmp_is T h z HZ.out _ _ w' hv2 (HXH.out.ext hb) HST.out.1 HST.out.2 HSH.out.1 HSH.out.2).mono ?_
        rintro e wz ⟨rfl, hbz⟩
        go_wp2
        exact ⟨rfl, hbz, rfl⟩
       intro w8' hbz u0 hu0 u1 hu1 u2 hu2 u3 hu3 u4 hu4 u5 hu5 u6 hu6 u7 hu7 u8 hu8 u9 hu9 u10 hu10 u11 hu11
       obtain rfl : u3 = _ := hu3
       obtain rfl : u11 = _ := hu11
       clear hu0 hu1 hu2 hu4 hu5 hu6 hu7 hu8 hu9 hu10
       replace HR_h := Lib.hid (HR_h.out.ext hbz)
       replace HXH := Lib.hid (HXH.out.ext hbz)
       replace HW := Lib.hid (ext_trans HW.out hbz)
       clear c_h_0 c_h_1 c_h_2
       clear hbz
       show wpList _ _ _ _ _ _
       simp only [Act.put, zz5, zz6, zz7]
       go_wp2
       go_roundw
       case rel => exact ⟨k + 1, by go_num, Lib.hid (HU.out.next (by omega) (by rw [HT.out]; exact HTT.out)), HR_h.out, HXH.out, HW.out⟩
       case measure => simp [intOf]; omega
      ·have hz0 : decide (z ≤ 0) = false := by rw [← HZ.out, cmpQ_le]; exact decide_eq_false ht
       have HLO : Hid (k = loR n' m' q) := Lib.hid (by have u := HU.out; rw [← HH.out] at u; exact u.done (.inr (by rw [HT.out, HH.out]; exact ht)))
       clear ht
       obtain ⟨c_h_0, c_h_1, c_h_2⟩ := zs3 HR_h.out
       go_upto_region 7 with (fail)
       refine Grow.wp_region_grow 12 [TP.eq (.int .i64 ((k : Int))), TP.eq (.int .i64 ((n' : Int))), TP.eq (.bool (true)), TP.eq (.bool (true)), TP.eq (.int .i64 ((n' : Int))), TP.eq (.int .i64 ((m' : Int))), TP.eq (.int .i64 ((k : Int))), TP.eq (.int .i64 ((k : Int) + 1)), TP.xq (T), TP.eq (.agg #[.bool xb, .slice p1 m1 k1, .slice p2 m2 k2]), TP.eq (.int .i64 (z)), TP.eq (.bool (false))] [[], [], [0, 1], [2], [3], [3], [3], [3, 6], [3, 4, 5, 7], [3], [3, 8, 9], [3, 10]] (by kernel_rfl) (by kernel_rfl) ⟨?o0b, ?o1b, ?o2b, ?o3b, ?o4b, ?o5b, ?o6b, ?o7b, ?o8b, ?o9b, ?o10b, ?o11b, trivial⟩ ?_
       case o0b | o1b =>
        intro w' hb
        show wpList _ _ _ _ _ _
        go_wp2
        exact ⟨rfl, Below.refl _ _, rfl⟩
       case o2b | o7b | o11b =>
        intro w' hb v1 hv1 v2 hv2
        obtain rfl : v1 = _ := hv1
        obtain rfl : v2 = _ := hv2
        show wpList _ _ _ _ _ _
        simp only [Grow.dstOf, zz1, zz2, zz3, zz4, Act.put, zz5, zz6, zz7]
        go_wp2
        exact ⟨rfl, Below.refl _ _, rfl⟩
       case o3b | o4b | o5b | o6b =>
        intro w' hb v1 hv1
        obtain rfl : v1 = _ := hv1
        show wpList _ _ _ _ _ _
        simp only [Grow.dstOf, zz1, zz2, zz3, zz4, Act.put, zz5, zz6, zz7]
        go_wp2
        exact ⟨rfl, Below.refl _ _, rfl⟩
       case o8b =>
        intro w' hb v1 hv1 v2 hv2 v3 hv3 v4 hv4
        obtain rfl : v1 = _ := hv1
        obtain rfl : v2 = _ := hv2
        obtain rfl : v3 = _ := hv3
        obtain rfl : v4 = _ := hv4
        show wpList _ _ _ _ _ _
        simp only [Grow.dstOf, zz1, zz2, zz3, zz4, Act.put, zz5, zz6, zz7]
        go_wp2_with fail
        refine (HTL.out w').mono ?_
        rintro e wz ⟨vz, rfl, hvz, hbz⟩
        go_wp2
        exact ⟨hvz, hbz, rfl⟩
       case o9b =>
        intro w' hb v1 hv1
        obtain rfl : v1 = _ := hv1
        have c_h_0' := zzc hb c_h_0
        have c_h_1' := zzc hb c_h_1
        have c_h_2' := zzc hb c_h_2
        show wpList _ _ _ _ _ _
        simp only [Grow.dstOf, zz1, zz2, zz3, zz4, Act.put, zz5, zz6, zz7]
        go_wp2
        exact ⟨rfl, Below.refl _ _, rfl⟩
       case o10b =>
        intro w' hb v1 hv1 v2 hv2 v3 hv3
        obtain rfl : v1 = _ := hv1
        obtain rfl : v3 = _ := hv3
        show wpList _ _ _ _ _ _
        simp only [Grow.dstOf, zz1, zz2, zz3, zz4, Act.put, zz5, zz6, zz7]
        go_wp2_with fail
        refine (xcmp_is T h z HZ.out _ _ w' hv2 (HXH.out.ext hb) HST.out.1 HST.out.2 HSH.out.1 HSH.out.2).mono ?_
        rintro e wz ⟨rfl, hbz⟩
        go_wp2
        exact ⟨rfl, hbz, rfl⟩
       intro w8' hbz u0 hu0 u1 hu1 u2 hu2 u3 hu3 u4 hu4 u5 hu5 u6 hu6 u7 hu7 u8 hu8 u9 hu9 u10 hu10 u11 hu11
       obtain rfl : u3 = _ := hu3
       obtain rfl : u11 = _ := hu11
       clear hu0 hu1 hu2 hu4 hu5 hu6 hu7 hu8 hu9 hu10
       replace HR_h := Lib.hid (HR_h.out.ext hbz)
       replace HXH := Lib.hid (HXH.out.ext hbz)
       replace HW := Lib.hid (ext_trans HW.out hbz)
       clear c_h_0 c_h_1 c_h_2
       clear hbz
       show wpList _ _ _ _ _ _
       simp only [Act.put, zz5, zz6, zz7]
       clear HU HT HST HTL HZ hz0 hli hk59 HKK
       go_wp2
       go_loopw [7] (fun i wr => ∃ p : Nat, i = .int .i64 (p : Int) ∧ Hid (upHi n' m' h p) ∧ (RH wr b_h #[.bool xb, .slice p1 m1 k1, .slice p2 m2 k2] 43) ∧ (XH wr (.agg #[.bool xb, .slice p1 m1 k1, .slice p2 m2 k2]) h) ∧ (Below w.heap.size w wr)) (fun i _ => n' + 2 - (intOf i).toNat)
       case atStart => exact ⟨1, rfl, Lib.hid (upHi.one _ _ _), HR_h.out, HXH.out, HW.out⟩
       case round =>
        clear HR_h HXH HW
        obtain ⟨p, rfl, HU, q_HR_h, q_HXH, q_HW⟩ := hrel
        have HR_h := Lib.hid q_HR_h
        have HXH := Lib.hid q_HXH
        have HW := Lib.hid q_HW
        clear q_HR_h q_HXH q_HW
        generalize hX : wr = Y at *
        clear hX
        have hpn : p ≤ n' + 1 := HU.out.2.1
        have hp0 : (0 : Int) ≤ (p : Int) := Int.natCast_nonneg _
        have hp61 : (p : Int) ≤ 61 := by omega
        obtain ⟨T, hT⟩ : ∃ z, tailQ n' m' p = z := ⟨_, rfl⟩
        have HST := Lib.hid ((tailQ_ln hn60 hm0 hpn).sm (by decide) (by decide))
        have HSR := Lib.hid ((rest_ln hn60 hm0 hpn).sm (by decide) (by decide))
        rw [hT] at HST HSR
        have HT := Lib.hid hT
        obtain ⟨R, hR⟩ : ∃ z, 1 - T = z := ⟨_, rfl⟩
        rw [hR] at HSR
        have HR := Lib.hid hR
        have HTL := Lib.hid (fun W9 => (by have h9 := tail_at n' m' p hn60 hm0 hpn W9; rw [HT.out] at h9; exact h9 : Calls Tryz.prog 18 #[.int .i64 (n' : Int), .int .i64 (m' : Int), .int .i64 (p : Int)] W9 (XPost W9 T)))
        obtain ⟨z, hz⟩ : ∃ z, cmpQ R h = z := ⟨_, rfl⟩
        have HZ := Lib.hid hz
        clear hT hz hR
        obtain ⟨c_h_0, c_h_1, c_h_2⟩ := zs3 HR_h.out
        go_upto_region 10 with (fail)
        refine Grow.wp_region_grow 8 [TP.xq (1), TP.eq (.int .i64 ((n' : Int))), TP.eq (.int .i64 ((m' : Int))), TP.eq (.int .i64 ((p : Int))), TP.xq (T), TP.xq (R), TP.eq (.agg #[.bool xb, .slice p1 m1 k1, .slice p2 m2 k2]), TP.eq (.int .i64 (z))] [[], [], [], [], [1, 2, 3], [0, 4], [], [5, 6]] (by kernel_rfl) (by kernel_rfl) ⟨?o0d, ?o1d, ?o2d, ?o3d, ?o4d, ?o5d, ?o6d, ?o7d, trivial⟩ ?_
        case o0d =>
         intro w' hb
         show wpList _ _ _ _ _ _
         go_wp2_with fail
         refine (mwhole_is 1 1 rfl (by decide) (by decide) w').mono ?_
         rintro e wz ⟨vz, rfl, hvz, hbz⟩
         go_wp2
         exact ⟨hvz, hbz, rfl⟩
        case o1d | o2d | o3d =>
         intro w' hb
         show wpList _ _ _ _ _ _
         go_wp2
         exact ⟨rfl, Below.refl _ _, rfl⟩
        case o4d =>
         intro w' hb v1 hv1 v2 hv2 v3 hv3
         obtain rfl : v1 = _ := hv1
         obtain rfl : v2 = _ := hv2
         obtain rfl : v3 = _ := hv3
         show wpList _ _ _ _ _ _
         simp only [Grow.dstOf, zz1, zz2, zz3, zz4, Act.put, zz5, zz6, zz7]
         go_wp2_with fail
         refine (HTL.out w').mono ?_
         rintro e wz ⟨vz, rfl, hvz, hbz⟩
         go_wp2
         exact ⟨hvz, hbz, rfl⟩
        case o5d =>
         intro w' hb v1 hv1 v2 hv2
         show wpList _ _ _ _ _ _
         simp only [Grow.dstOf, zz1, zz2, zz3, zz4, Act.put, zz5, zz6, zz7]
         go_wp2_with fail
         refine (mminus_is 1 T R HR.out _ _ w' hv1 hv2 ((Ln.int (z := 1) (a := 1) (by decide)).sm (by decide) (by decide)) HST.out).mono ?_
         rintro e wz ⟨vz, rfl, hvz, hbz⟩
         go_wp2
         exact ⟨hvz, hbz, rfl⟩
        case o6d =>
         intro w' hb
         have c_h_0' := zzc hb c_h_0
         have c_h_1' := zzc hb c_h_1
         have c_h_2' := zzc hb c_h_2
         show wpList _ _ _ _ _ _
         go_wp2
         exact ⟨rfl, Below.refl _ _, rfl⟩
        case o7d =>
         intro w' hb v1 hv1 v2 hv2
         obtain rfl : v2 = _ := hv2
         show wpList _ _ _ _ _ _
         simp only [Grow.dstOf, zz1, zz2, zz3, zz4, Act.put, zz5, zz6, zz7]
         go_wp2_with fail
         refine (xcmp_is R h z HZ.out _ _ w' hv1 (HXH.out.ext hb) HSR.out.1 HSR.out.2 HSH.out.1 HSH.out.2).mono ?_
         rintro e wz ⟨rfl, hbz⟩
         go_wp2
         exact ⟨rfl, hbz, rfl⟩
        intro w9' hbz u0 hu0 u1 hu1 u2 hu2 u3 hu3 u4 hu4 u5 hu5 u6 hu6 u7 hu7
        obtain rfl : u7 = _ := hu7
        clear hu0 hu1 hu2 hu3 hu4 hu5 hu6
        replace HR_h := Lib.hid (HR_h.out.ext hbz)
        replace HXH := Lib.hid (HXH.out.ext hbz)
        replace HW := Lib.hid (ext_trans HW.out hbz)
        clear c_h_0 c_h_1 c_h_2
        clear hbz
        show wpList _ _ _ _ _ _
        simp only [Act.put, zz5, zz6, zz7]
        by_cases hg : h < R
        ·have hz0 : decide (0 < z) = true := by rw [← HZ.out, cmpQ_gt]; exact decide_eq_true hg
         have HG := Lib.hid hg
         clear hg
         go_wp2
         go_roundw
         case rel => exact ⟨p + 1, by go_num, Lib.hid (HU.out.next hm0 (by have h8 := HQ01.out.1; rw [← HH.out]; grind) (by rw [HT.out, HR.out]; exact HG.out)), HR_h.out, HXH.out, HW.out⟩
         case measure => simp [intOf]; omega
        ·have hz0 : decide (0 < z) = false := by rw [← HZ.out, cmpQ_gt]; exact decide_eq_false hg
         have HHI : Hid (p = hiR n' m' q) := Lib.hid (by have u := HU.out; rw [← HH.out] at u; exact u.done (by rw [HT.out, HR.out, HH.out]; exact hg))
         clear hg
         go_wp2
         exact bodyPost_ret (v := .tuple #[.int .i64 ((k : Int)), .int .i64 ((p : Int)), .int .i64 (0)]) (by simp [results, Tryz.results8, go_sem]) rfl ⟨by rw [HN.out.1, HN.out.2.1, HN.out.2.2, ← HLO.out, ← HHI.out], HW.out⟩
     ·have hli : decide ((k : Int) < (n' : Int)) = false := decide_eq_false (by omega)
      have HLO : Hid (k = loR n' m' q) := Lib.hid (by have u := HU.out; rw [← HH.out] at u; exact u.done (.inl (by omega)))
      obtain ⟨c_h_0, c_h_1, c_h_2⟩ := zs3 HR_h.out
      go_upto_region 7 with (fail)
      refine Grow.wp_region_grow 12 [TP.eq (.int .i64 ((k : Int))), TP.eq (.int .i64 ((n' : Int))), TP.eq (.bool (false)), TP.eq (.bool (false)), TP.eq undef, TP.eq undef, TP.eq undef, TP.eq undef, TP.eq undef, TP.eq undef, TP.eq undef, TP.eq undef] [[], [], [0, 1], [2], [3], [3], [3], [3, 6], [3, 4, 5, 7], [3], [3, 8, 9], [3, 10]] (by kernel_rfl) (by kernel_rfl) ⟨?o0c, ?o1c, ?o2c, ?o3c, ?o4c, ?o5c, ?o6c, ?o7c, ?o8c, ?o9c, ?o10c, ?o11c, trivial⟩ ?_
      case o0c | o1c =>
       intro w' hb
       show wpList _ _ _ _ _ _
       go_wp2
       exact ⟨rfl, Below.refl _ _, rfl⟩
      case o2c | o7c | o11c =>
       intro w' hb v1 hv1 v2 hv2
       obtain rfl : v1 = _ := hv1
       obtain rfl : v2 = _ := hv2
       show wpList _ _ _ _ _ _
       simp only [Grow.dstOf, zz1, zz2, zz3, zz4, Act.put, zz5, zz6, zz7]
       go_wp2
       exact ⟨rfl, Below.refl _ _, rfl⟩
      case o3c | o4c | o5c | o6c | o9c =>
       intro w' hb v1 hv1
       obtain rfl : v1 = _ := hv1
       show wpList _ _ _ _ _ _
       simp only [Grow.dstOf, zz1, zz2, zz3, zz4, Act.put, zz5, zz6, zz7]
       go_wp2
       exact ⟨rfl, Below.refl _ _, rfl⟩
      case o8c =>
       intro w' hb v1 hv1 v2 hv2 v3 hv3 v4 hv4
       obtain rfl : v1 = _ := hv1
       obtain rfl : v2 = _ := hv2
       obtain rfl : v3 = _ := hv3
       obtain rfl : v4 = _ := hv4
       show wpList _ _ _ _ _ _
       simp only [Grow.dstOf, zz1, zz2, zz3, zz4, Act.put, zz5, zz6, zz7]
       go_wp2
       exact ⟨rfl, Below.refl _ _, rfl⟩
      case o10c =>
       intro w' hb v1 hv1 v2 hv2 v3 hv3
       obtain rfl : v1 = _ := hv1
       obtain rfl : v2 = _ := hv2
       obtain rfl : v3 = _ := hv3
       show wpList _ _ _ _ _ _
       simp only [Grow.dstOf, zz1, zz2, zz3, zz4, Act.put, zz5, zz6, zz7]
       go_wp2
       exact ⟨rfl, Below.refl _ _, rfl⟩
      intro w8' hbz u0 hu0 u1 hu1 u2 hu2 u3 hu3 u4 hu4 u5 hu5 u6 hu6 u7 hu7 u8 hu8 u9 hu9 u10 hu10 u11 hu11
      obtain rfl : u3 = _ := hu3
      obtain rfl : u11 = _ := hu11
      clear hu0 hu1 hu2 hu4 hu5 hu6 hu7 hu8 hu9 hu10
      replace HR_h := Lib.hid (HR_h.out.ext hbz)
      replace HXH := Lib.hid (HXH.out.ext hbz)
      replace HW := Lib.hid (ext_trans HW.out hbz)
      clear c_h_0 c_h_1 c_h_2
      clear hbz
      show wpList _ _ _ _ _ _
      simp only [Act.put, zz5, zz6, zz7]
      clear HU hli
      go_wp2
      go_loopw [7] (fun i wr => ∃ p : Nat, i = .int .i64 (p : Int) ∧ Hid (upHi n' m' h p) ∧ (RH wr b_h #[.bool xb, .slice p1 m1 k1, .slice p2 m2 k2] 43) ∧ (XH wr (.agg #[.bool xb, .slice p1 m1 k1, .slice p2 m2 k2]) h) ∧ (Below w.heap.size w wr)) (fun i _ => n' + 2 - (intOf i).toNat)
      case atStart => exact ⟨1, rfl, Lib.hid (upHi.one _ _ _), HR_h.out, HXH.out, HW.out⟩
      case round =>
       clear HR_h HXH HW
       obtain ⟨p, rfl, HU, q_HR_h, q_HXH, q_HW⟩ := hrel
       have HR_h := Lib.hid q_HR_h
       have HXH := Lib.hid q_HXH
       have HW := Lib.hid q_HW
       clear q_HR_h q_HXH q_HW
       generalize hX : wr = Y at *
       clear hX
       have hpn : p ≤ n' + 1 := HU.out.2.1
       have hp0 : (0 : Int) ≤ (p : Int) := Int.natCast_nonneg _
       have hp61 : (p : Int) ≤ 61 := by omega
       obtain ⟨T, hT⟩ : ∃ z, tailQ n' m' p = z := ⟨_, rfl⟩
       have HST := Lib.hid ((tailQ_ln hn60 hm0 hpn).sm (by decide) (by decide))
       have HSR := Lib.hid ((rest_ln hn60 hm0 hpn).sm (by decide) (by decide))
       rw [hT] at HST HSR
       have HT := Lib.hid hT
       obtain ⟨R, hR⟩ : ∃ z, 1 - T = z := ⟨_, rfl⟩
       rw [hR] at HSR
       have HR := Lib.hid hR
       have HTL := Lib.hid (fun W9 => (by have h9 := tail_at n' m' p hn60 hm0 hpn W9; rw [HT.out] at h9; exact h9 : Calls Tryz.prog 18 #[.int .i64 (n' : Int), .int .i64 (m' : Int), .int .i64 (p : Int)] W9 (XPost W9 T)))
       obtain ⟨z, hz⟩ : ∃ z, cmpQ R h = z := ⟨_, rfl⟩
       have HZ := Lib.hid hz
       clear hT hz hR
       obtain ⟨c_h_0, c_h_1, c_h_2⟩ := zs3 HR_h.out
       go_upto_region 10 with (fail)
       refine Grow.wp_region_grow 8 [TP.xq (1), TP.eq (.int .i64 ((n' : Int))), TP.eq (.int .i64 ((m' : Int))), TP.eq (.int .i64 ((p : Int))), TP.xq (T), TP.xq (R), TP.eq (.agg #[.bool xb, .slice p1 m1 k1, .slice p2 m2 k2]), TP.eq (.int .i64 (z))] [[], [], [], [], [1, 2, 3], [0, 4], [], [5, 6]] (by kernel_rfl) (by kernel_rfl) ⟨?o0d, ?o1d, ?o2d, ?o3d, ?o4d, ?o5d, ?o6d, ?o7d, trivial⟩ ?_
       case o0d =>
        intro w' hb
        show wpList _ _ _ _ _ _
        go_wp2_with fail
        refine (mwhole_is 1 1 rfl (by decide) (by decide) w').mono ?_
        rintro e wz ⟨vz, rfl, hvz, hbz⟩
        go_wp2
        exact ⟨hvz, hbz, rfl⟩
       case o1d | o2d | o3d =>
        intro w' hb
        show wpList _ _ _ _ _ _
        go_wp2
        exact ⟨rfl, Below.refl _ _, rfl⟩
       case o4d =>
        intro w' hb v1 hv1 v2 hv2 v3 hv3
        obtain rfl : v1 = _ := hv1
        obtain rfl : v2 = _ := hv2
        obtain rfl : v3 = _ := hv3
        show wpList _ _ _ _ _ _
        simp only [Grow.dstOf, zz1, zz2, zz3, zz4, Act.put, zz5, zz6, zz7]
        go_wp2_with fail
        refine (HTL.out w').mono ?_
        rintro e wz ⟨vz, rfl, hvz, hbz⟩
        go_wp2
        exact ⟨hvz, hbz, rfl⟩
       case o5d =>
        intro w' hb v1 hv1 v2 hv2
        show wpList _ _ _ _ _ _
        simp only [Grow.dstOf, zz1, zz2, zz3, zz4, Act.put, zz5, zz6, zz7]
        go_wp2_with fail
        refine (mminus_is 1 T R HR.out _ _ w' hv1 hv2 ((Ln.int (z := 1) (a := 1) (by decide)).sm (by decide) (by decide)) HST.out).mono ?_
        rintro e wz ⟨vz, rfl, hvz, hbz⟩
        go_wp2
        exact ⟨hvz, hbz, rfl⟩
       case o6d =>
        intro w' hb
        have c_h_0' := zzc hb c_h_0
        have c_h_1' := zzc hb c_h_1
        have c_h_2' := zzc hb c_h_2
        show wpList _ _ _ _ _ _
        go_wp2
        exact ⟨rfl, Below.refl _ _, rfl⟩
       case o7d =>
        intro w' hb v1 hv1 v2 hv2
        obtain rfl : v2 = _ := hv2
        show wpList _ _ _ _ _ _
        simp only [Grow.dstOf, zz1, zz2, zz3, zz4, Act.put, zz5, zz6, zz7]
        go_wp2_with fail
        refine (xcmp_is R h z HZ.out _ _ w' hv1 (HXH.out.ext hb) HSR.out.1 HSR.out.2 HSH.out.1 HSH.out.2).mono ?_
        rintro e wz ⟨rfl, hbz⟩
        go_wp2
        exact ⟨rfl, hbz, rfl⟩
       intro w9' hbz u0 hu0 u1 hu1 u2 hu2 u3 hu3 u4 hu4 u5 hu5 u6 hu6 u7 hu7
       obtain rfl : u7 = _ := hu7
       clear hu0 hu1 hu2 hu3 hu4 hu5 hu6
       replace HR_h := Lib.hid (HR_h.out.ext hbz)
       replace HXH := Lib.hid (HXH.out.ext hbz)
       replace HW := Lib.hid (ext_trans HW.out hbz)
       clear c_h_0 c_h_1 c_h_2
       clear hbz
       show wpList _ _ _ _ _ _
       simp only [Act.put, zz5, zz6, zz7]
       by_cases hg : h < R
       ·have hz0 : decide (0 < z) = true := by rw [← HZ.out, cmpQ_gt]; exact decide_eq_true hg
        have HG := Lib.hid hg
        clear hg
        go_wp2
        go_roundw
        case rel => exact ⟨p + 1, by go_num, Lib.hid (HU.out.next hm0 (by have h8 := HQ01.out.1; rw [← HH.out]; grind) (by rw [HT.out, HR.out]; exact HG.out)), HR_h.out, HXH.out, HW.out⟩
        case measure => simp [intOf]; omega
       ·have hz0 : decide (0 < z) = false := by rw [← HZ.out, cmpQ_gt]; exact decide_eq_false hg
        have HHI : Hid (p = hiR n' m' q) := Lib.hid (by have u := HU.out; rw [← HH.out] at u; exact u.done (by rw [HT.out, HR.out, HH.out]; exact hg))
        clear hg
        go_wp2
        exact bodyPost_ret (v := .tuple #[.int .i64 ((k : Int)), .int .i64 ((p : Int)), .int .i64 (0)]) (by simp [results, Tryz.results8, go_sem]) rfl ⟨by rw [HN.out.1, HN.out.2.1, HN.out.2.2, ← HLO.out, ← HHI.out], HW.out⟩
   ·go_wp2_with fail
    refine (mwithin_no m 1 999 (by omega) w4').mono ?_
    rintro e w5' ⟨rfl, hw9⟩
    have hbz : Below w4'.heap.size w4' w5' := by rw [← hw9]; exact Below.refl _ _
    clear hw9
    replace HR_x := Lib.hid (HR_x.out.ext hbz)
    replace HX := Lib.hid (HX.out.ext hbz)
    replace HW := Lib.hid (ext_trans HW.out hbz)
    clear hbz
    have HN := Lib.hid (rn_no (n := n) (m := m) HF.out (by unfold rnOk; omega))
    go_wp2
    exact bodyPost_ret (v := .tuple #[.int .i64 (0), .int .i64 (0), .int .i64 (1)]) (by simp [results, Tryz.results8, go_sem]) rfl ⟨by rw [HN.out.1, HN.out.2.1, HN.out.2.2], HW.out⟩
  ·go_wp2_with fail
   refine (mwithin_no n 1 60 (by omega) w3').mono ?_
   rintro e w4' ⟨rfl, hw9⟩
   have hbz : Below w3'.heap.size w3' w4' := by rw [← hw9]; exact Below.refl _ _
   clear hw9
   replace HR_x := Lib.hid (HR_x.out.ext hbz)
   replace HX := Lib.hid (HX.out.ext hbz)
   replace HW := Lib.hid (ext_trans HW.out hbz)
   clear hbz
   have HN := Lib.hid (rn_no (n := n) (m := m) HF.out (by unfold rnOk; omega))
   go_wp2
   exact bodyPost_ret (v := .tuple #[.int .i64 (0), .int .i64 (0), .int .i64 (1)]) (by simp [results, Tryz.results8, go_sem]) rfl ⟨by rw [HN.out.1, HN.out.2.1, HN.out.2.2], HW.out⟩
 ·have HN := Lib.hid (rn_miss (n := n) (m := m) (a := a) (b := b) (by rw [HF.out]; exact h0))
  have hne : (f != 0) = true := by simpa using h0
  go_wp2
  exact bodyPost_ret (v := .tuple #[.int .i64 (0), .int .i64 (0), .int .i64 (f)]) (by simp [results, Tryz.results8, go_sem]) rfl ⟨by rw [HN.out.1, HN.out.2.1, HN.out.2.2, HF.out], HW.out⟩
end Nm
end Go.Proofs.YtiieckboccbhhaaGreatDoor
