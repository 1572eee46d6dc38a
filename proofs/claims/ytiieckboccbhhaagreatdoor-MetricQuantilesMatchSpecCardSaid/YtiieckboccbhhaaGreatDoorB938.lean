/- Ranks of the reference. Printed by gen_rranks.py. -/
import Derived.Test.YtiieckboccbhhaaGreatDoorB935
import Derived.Test.YtiieckboccbhhaaGreatDoorB930
import Derived.Test.YtiieckboccbhhaaGreatDoorB934
import Derived.Test.YtiieckboccbhhaaGreatDoorB936
import Derived.Test.YtiieckboccbhhaaGreatDoorB900
import Derived.Test.YtiieckboccbhhaaGreatDoorB904
import Derived.Test.YtiieckboccbhhaaGreatDoorB923
namespace Go.Proofs.YtiieckboccbhhaaGreatDoor
open Go.RowKit
namespace Nt
open _root_.Go.Proofs.YtiieckboccbhhaaGreatDoor.Nm (missF rF rQ rQ_facts cutB cutS decv sgn cmpQ cmpQ_le cmpQ_ge0 miss_ok miss_small rnF rnLo rnHi rnOk rn_miss rn_no rn_yes RnPost FPost tailQ loR hiR highV dnLo dnLo.start dnLo.take dnLo.pass dnLo.keep dnLo.done dnHi_next)

/-- a fraction that reads as q, of at most B digits to the base -/
def FL (B : Nat) (w : World) (t : F3) (q : Rat) : Prop := ∃ n' d', (0 < d' ∧ wlen n' ≤ B ∧ wlen d' ≤ B ∧ fq t.b n' d' = q) ∧ FX w t n' d'
theorem FL.ext {B : Nat} {w w' : World} {t : F3} {q : Rat} (h : FL B w t q) (hb : Below w.heap.size w w') : FL B w' t q := by obtain ⟨n', d', h1, h2⟩ := h; exact ⟨n', d', h1, h2.ext hb⟩
theorem FL.far {B : Nat} {w w' : World} {b : Nat} {A : Array Value} {t : F3} {q : Rat} (h : FL B w t q) (hA : Box w b A) (hn : NoI A) (hk : ∀ p : Addr, p.block ≠ b → w'.cell? p = w.cell? p) : FL B w' t q := by obtain ⟨n', d', h1, h2⟩ := h; exact ⟨n', d', h1, h2.far hA hn hk⟩
theorem FQ.fl {w : World} {t : F3} {q : Rat} (h : FQ w t q) : FL 100 w t q := h
def FLPost (B : Nat) (w : World) (q : Rat) (e : Ending) (w' : World) : Prop := ∃ t, e = .returned (f3V t) ∧ FL B w' t q ∧ Below w.heap.size w w'
def TP.fl (B : Nat) (q : Rat) : TP := ⟨fun w v => ∃ t : F3, v = f3V t ∧ FL B w t q, fun _ _ _ hb ⟨t, h1, h2⟩ => ⟨t, h1, h2.ext hb⟩⟩
theorem fracL_at (a b : ByteArray) (ha : a.size ≤ maxLen) (hr : rF a b = 0) (w : World) : Calls Tryz.prog 28 #[.agg #[.string a, .string b]] w (FLPost 4000 w (rQ a b)) := by
 refine (fracOf_at a b ha hr w).mono ?_
 rintro e w' ⟨t, rfl, hb, hx, hbz⟩
 obtain ⟨h0, _, _, h4, h5, h6, h7, _⟩ := rQ_facts hr
 have e1 : (cutS a).data.toList.length = (cutS a).size := Array.length_toList
 have e2 : b.data.toList.length = b.size := Array.length_toList
 exact ⟨t, rfl, ⟨_, _, ⟨by omega, wlen_dec9 (whole_digs h4) (by omega), wlen_dec9 (whole_digs h5) (by omega), by rw [hb]; exact fq_rQ hr⟩, hx⟩, hbz⟩
theorem flnat_at (n : Nat) (q : Rat) (hq : ((n : Nat) : Rat) = q) (h : n ≤ 1000) (w : World) : Calls Tryz.prog 30 #[.int .i64 (n : Int)] w (FLPost 1 w q) := by
 subst hq
 have h1 := fwhole_at (n : Int) (by omega) (by omega) w
 refine h1.mono ?_
 rintro e w' ⟨t, rfl, hb, hx, hbz⟩
 refine ⟨t, rfl, ⟨_, _, ⟨by decide, ?_, ?_, ?_⟩, hx⟩, hbz⟩
 ·rw [Int.natAbs_natCast]; exact Nat.le_trans (wlen_le (k := 1) (by rw [Nat.pow_one]; exact Nat.lt_of_le_of_lt h (by decide))) (Nat.le_refl _)
 ·exact wlen_le (k := 1) (by decide)
 ·rw [hb, fq_whole, Rat.intCast_natCast]
theorem flover_at (A B : Nat) (hA : A ≤ 100000) (hB : B ≤ 100000) (t s : F3) (x y q : Rat) (hq : x / y = q) (h0 : y ≠ 0) (w : World) (hx : FL A w t x) (hy : FL B w s y) : Calls Tryz.prog 29 #[f3V t, f3V s] w (FLPost (A + B) w q) := by
 obtain ⟨n, d, ⟨hd, l1, l2, hx1⟩, hx2⟩ := hx
 obtain ⟨m, e, ⟨he, l3, l4, hy1⟩, hy2⟩ := hy
 have hm : 0 < m := by
  rcases Nat.eq_zero_or_pos m with h | h
  ·exact absurd (hy1.symm.trans ((fq_zero he).2 h)) h0
  ·exact h
 refine (fover_at t s n d m e hd hm (by omega) (by omega) (by omega) (by omega) w hx2 hy2).mono ?_
 rintro ee w' ⟨t9, n9, d9, rfl, hs, hx9, hbz⟩
 have hp : 0 < d * m := Nat.mul_pos hd hm
 have h1 := hs.num
 have w1 := wlen_mul n e
 have w2 := wlen_mul d m
 have w3 := wlen_mono h1.1
 have w4 := wlen_mono h1.2
 exact ⟨t9, rfl, ⟨n9, d9, ⟨hs.pos hp, by omega, by omega, by rw [hs.fq hp, fq_div hd he hm, hx1, hy1, hq]⟩, hx9⟩, hbz⟩
theorem flminus_at (A B : Nat) (hA : A ≤ 100000) (hB : B ≤ 100000) (t s : F3) (x y q : Rat) (hq : x - y = q) (w : World) (hx : FL A w t x) (hy : FL B w s y) : Calls Tryz.prog 31 #[f3V t, f3V s] w (FLPost (A + B + 1) w q) := by
 obtain ⟨n, d, ⟨hd, l1, l2, hx1⟩, hx2⟩ := hx
 obtain ⟨m, e, ⟨he, l3, l4, hy1⟩, hy2⟩ := hy
 refine (fminus_at t s n d m e hd he (by omega) (by omega) (by omega) (by omega) w hx2 hy2).mono ?_
 rintro ee w' ⟨t9, n9, d9, rfl, hs, hx9, hbz⟩
 have hp : 0 < d * e := Nat.mul_pos hd he
 have h1 := hs.num
 have w0 := wlen_mono (pl_le t.b (!s.b) (n * e) (m * d))
 have w1 := wlen_mul n e
 have w2 := wlen_mul m d
 have w5 := wlen_mul d e
 have w6 := wlen_add (n * e) (m * d)
 have w3 := wlen_mono h1.1
 have w4 := wlen_mono h1.2
 refine ⟨t9, rfl, ⟨n9, d9, ⟨hs.pos hp, by omega, by omega, ?_⟩, hx9⟩, hbz⟩
 rw [hs.fq hp, fq_add hd he, fq_neg, hx1, hy1, ← hq, Rat.sub_eq_add_neg]
theorem florder_at (A B : Nat) (hA : A ≤ 100000) (hB : B ≤ 100000) (t s : F3) (x y : Rat) (z : Int) (hz : cmpQ x y = z) (w : World) (hx : FL A w t x) (hy : FL B w s y) : Calls Tryz.prog 32 #[f3V t, f3V s] w (fun e' w' => e' = .returned (.int .i64 z) ∧ Below w.heap.size w w') := by
 obtain ⟨n, d, ⟨hd, l1, l2, hx1⟩, hx2⟩ := hx
 obtain ⟨m, e, ⟨he, l3, l4, hy1⟩, hy2⟩ := hy
 have h := forder_at t s n d m e hd he (by omega) (by omega) (by omega) (by omega) w hx2 hy2
 rw [hx1, hy1, hz] at h
 exact h
def TP.rw' (N : Nat) (A : Array Value) (ty : TypeId) : TP := ⟨fun w v => ∃ g, v = .pointer (some ⟨g, 0, none⟩) ∧ N ≤ g ∧ RH w g A ty, fun _ _ _ hb h => by obtain ⟨g, h1, h2, h3⟩ := h; exact ⟨g, h1, h2, h3.ext hb⟩⟩
/-- a cell's value, as the frame carries it -/
def CL (w : World) (p : Addr) (v : Value) : Prop := w.cell? p = some v
theorem CL.ext {w w' : World} {p : Addr} {v : Value} (h : CL w p v) (hb : Below w.heap.size w w') : CL w' p v := (hb.cell (World.block_lt_of_cell? _ _ h)).trans h
set_option maxRecDepth 100000 in
set_option maxHeartbeats 16000000 in
theorem refRanks_at (n m : Int) (a b : ByteArray) (ha : a.size ≤ maxLen) (hb : b.size ≤ maxLen) (w : World) (ht : Tab w) : Calls Tryz.prog 9 #[.int .i64 n, .int .i64 m, .agg #[.string a, .string b]] w (RnPost w (rnLo n m a b) (rnHi n m a b) (rnF n m a b)) := by
 go_enter Tryz.func9, Tryz.ntmps9
 have HT0 := Lib.hid ht
 clear ht
 go_upto_region 1 with (fail)
 refine wp_frs1 fun w1' hbz hR0 => ?_
 have HR_a : Hid (RH w1' w.heap.size #[.string a, .string b] 23) := Lib.hid hR0
 have HW := Lib.hid hbz
 clear hbz hR0
 obtain ⟨c_a_0, c_a_1⟩ := zs2 HR_a.out
 go_wp2_with fail
 refine (isMiss_at a b ha hb w1' (HT0.out.ext HW.out)).mono ?_
 rintro e w2' ⟨rfl, hbz⟩
 obtain ⟨f, hf⟩ : ∃ f, missF a b = f := ⟨_, rfl⟩
 rw [hf]
 have HF := Lib.hid hf
 clear hf
 replace HR_a := Lib.hid (HR_a.out.ext hbz)
 replace HW := Lib.hid (ext_trans HW.out hbz)
 clear c_a_0 c_a_1
 clear hbz
 by_cases h0 : f = 0
 ·subst h0
  have HR0 := Lib.hid (miss_ok HF.out).1
  have HFR := Lib.hid (fun W9 => fracL_at a b ha HR0.out W9)
  obtain ⟨q, hq⟩ : ∃ z, rQ a b = z := ⟨_, rfl⟩
  rw [hq] at HFR
  have HQ := Lib.hid hq
  obtain ⟨h, hh⟩ : ∃ z, q / 2 = z := ⟨_, rfl⟩
  have HH := Lib.hid hh
  obtain ⟨R, hR⟩ : ∃ z, 1 - h = z := ⟨_, rfl⟩
  have HR := Lib.hid hR
  clear hq hh hR
  obtain ⟨c_a_0, c_a_1⟩ := zs2 HR_a.out
  by_cases ha : n < 1
  ·have HN := Lib.hid (rn_no (n := n) (m := m) HF.out (by unfold rnOk; omega))
   go_wp2
   exact bodyPost_ret (v := .tuple #[.int .i64 (0), .int .i64 (0), .int .i64 (1)]) (by simp [results, Tryz.results9, go_sem]) rfl ⟨by rw [HN.out.1, HN.out.2.1, HN.out.2.2], HW.out⟩
  ·by_cases hb : 60 < n
   ·have HN := Lib.hid (rn_no (n := n) (m := m) HF.out (by unfold rnOk; omega))
    go_wp2
    exact bodyPost_ret (v := .tuple #[.int .i64 (0), .int .i64 (0), .int .i64 (1)]) (by simp [results, Tryz.results9, go_sem]) rfl ⟨by rw [HN.out.1, HN.out.2.1, HN.out.2.2], HW.out⟩
   ·by_cases hc : m < 1
    ·have HN := Lib.hid (rn_no (n := n) (m := m) HF.out (by unfold rnOk; omega))
     go_wp2
     exact bodyPost_ret (v := .tuple #[.int .i64 (0), .int .i64 (0), .int .i64 (1)]) (by simp [results, Tryz.results9, go_sem]) rfl ⟨by rw [HN.out.1, HN.out.2.1, HN.out.2.2], HW.out⟩
    ·by_cases hd : 1000 ≤ m
     ·have HN := Lib.hid (rn_no (n := n) (m := m) HF.out (by unfold rnOk; omega))
      go_wp2
      exact bodyPost_ret (v := .tuple #[.int .i64 (0), .int .i64 (0), .int .i64 (1)]) (by simp [results, Tryz.results9, go_sem]) rfl ⟨by rw [HN.out.1, HN.out.2.1, HN.out.2.2], HW.out⟩
     ·obtain ⟨n', hn'⟩ : ∃ z : Nat, n = (z : Int) := ⟨n.toNat, by omega⟩
      obtain ⟨m', hm'⟩ : ∃ z : Nat, m = (z : Int) := ⟨m.toNat, by omega⟩
      subst hn'
      subst hm'
      have HN := Lib.hid (rn_yes (n := n') (m := m') HF.out (by unfold rnOk; omega))
      rw [HQ.out] at HN
      have hn60 : n' ≤ 60 := by omega
      have hm0 : m' ≤ 1000 := by omega
      go_wp2_with fail
      refine (HFR.out w2').mono ?_
      rintro e w3' ⟨t1, rfl, hx1, hbz⟩
      replace HR_a := Lib.hid (HR_a.out.ext hbz)
      replace HW := Lib.hid (ext_trans HW.out hbz)
      clear c_a_0 c_a_1
      clear hbz
      have HX1 : Hid (FL 4000 w3' t1 q) := Lib.hid hx1
      clear hx1
      have hf2 := flnat_at 2 2 rfl (by decide) w3'
      rw [show ((2 : Nat) : Int) = 2 from rfl] at hf2
      have HF2 := Lib.hid hf2
      clear hf2
      go_wp2_with fail
      refine (HF2.out).mono ?_
      rintro e w4' ⟨t2, rfl, hx2, hbz⟩
      clear HF2
      replace HR_a := Lib.hid (HR_a.out.ext hbz)
      replace HX1 := Lib.hid (HX1.out.ext hbz)
      replace HW := Lib.hid (ext_trans HW.out hbz)
      clear hbz
      have HX2 : Hid (FL 1 w4' t2 2) := Lib.hid hx2
      clear hx2
      go_wp2_with fail
      refine (flover_at 4000 1 (by decide) (by decide) t1 t2 q 2 h HH.out (by decide) w4' HX1.out HX2.out).mono ?_
      rintro e w5' ⟨t3, rfl, hx3, hbz⟩
      replace HR_a := Lib.hid (HR_a.out.ext hbz)
      replace HX1 := Lib.hid (HX1.out.ext hbz)
      replace HX2 := Lib.hid (HX2.out.ext hbz)
      replace HW := Lib.hid (ext_trans HW.out hbz)
      clear hbz
      have HX3 : Hid (FL (4000 + 1) w5' t3 h) := Lib.hid hx3
      clear hx3
      clear HX1
      clear HX2
      clear HR_a
      go_upto_region 7 with (fail)
      refine wp_frs1 fun w6' hbz hR0 => ?_
      have le_h : w.heap.size ≤ w5'.heap.size := HW.out.size
      replace HX3 := Lib.hid (HX3.out.ext hbz)
      replace HW := Lib.hid (ext_trans HW.out hbz)
      clear hbz
      have HR_h : Hid (RH w6' w5'.heap.size #[.bool t3.b, .slice t3.a1 t3.n1 t3.c1, .slice t3.a2 t3.n2 t3.c2] 48) := Lib.hid hR0
      clear hR0
      generalize w5'.heap.size = b_h at *
      obtain ⟨c_h_0, c_h_1, c_h_2⟩ := zs3 HR_h.out
      have HF1 := Lib.hid (fun W9 => (by have h9 := flnat_at 1 1 rfl (by decide) W9; rw [show ((1 : Nat) : Int) = 1 from rfl] at h9; exact h9 : Calls Tryz.prog 30 #[.int .i64 1] W9 (FLPost 1 W9 1)))
      refine Grow.wp_region_grow 4 [TP.fl 1 (1), TP.eq (f3V t3), TP.fl (1 + (4000 + 1) + 1) (R), TP.rw' w6'.heap.size #[.bool false, .slice none 0 0, .slice none 0 0] 48] [[], [], [0, 1], []] (by kernel_rfl) (by kernel_rfl) ⟨?o0g, ?o1g, ?o2g, ?o3g, trivial⟩ ?_
      case o0g =>
       intro w' hb
       show wpList _ _ _ _ _ _
       go_wp2_with fail
       refine (HF1.out w').mono ?_
       rintro e wz ⟨t9, rfl, hx9, hbz⟩
       go_wp2
       exact ⟨⟨t9, rfl, hx9⟩, hbz, rfl⟩
      case o1g =>
       intro w' hb
       have c_h_0' := zzc hb c_h_0
       have c_h_1' := zzc hb c_h_1
       have c_h_2' := zzc hb c_h_2
       show wpList _ _ _ _ _ _
       go_wp2
       exact ⟨rfl, Below.refl _ _, rfl⟩
      case o2g =>
       intro w' hb v1 hv1 v2 hv2
       obtain rfl : v2 = _ := hv2
       obtain ⟨t8, rfl, hx8⟩ := hv1
       show wpList _ _ _ _ _ _
       simp only [Grow.dstOf, zz1, zz2, zz3, zz4, Act.put, zz5, zz6, zz7]
       go_wp2_with fail
       refine (flminus_at 1 (4000 + 1) (by decide) (by decide) t8 t3 1 h R HR.out w' hx8 (HX3.out.ext hb)).mono ?_
       rintro e wz ⟨t9, rfl, hx9, hbz⟩
       go_wp2
       exact ⟨⟨t9, rfl, hx9⟩, hbz, rfl⟩
      case o3g =>
       intro w' hb
       show wpList _ _ _ _ _ _
       go_wp2
       exact ⟨⟨_, rfl, hb.size, RH.new _ _ _⟩, ext_alloc _ _, rfl⟩
      intro w7' hbz u0 hu0 u1 hu1 u2 hu2 u3 hu3
      obtain ⟨t4, rfl, hx4⟩ := (show ∃ t : F3, u2 = f3V t ∧ FL (1 + (4000 + 1) + 1) w7' t R from hu2)
      have hg9 : ∃ g, u3 = .pointer (some ⟨g, 0, none⟩) ∧ w6'.heap.size ≤ g ∧ RH w7' g #[.bool false, .slice none 0 0, .slice none 0 0] 48 := hu3
      clear hu0 hu1 hu2 hu3 HF1
      obtain ⟨b_r, rfl, hgY, hRg⟩ := hg9
      have lt_h_r : b_h < b_r := Nat.lt_of_lt_of_le HR_h.out.lt hgY
      have le_r : w.heap.size ≤ b_r := Nat.le_trans HW.out.size hgY
      clear hgY
      replace HR_h := Lib.hid (HR_h.out.ext hbz)
      replace HX3 := Lib.hid (HX3.out.ext hbz)
      replace HW := Lib.hid (ext_trans HW.out hbz)
      clear c_h_0 c_h_1 c_h_2
      clear hbz
      have HR_r : Hid (RH w7' b_r #[.bool false, .slice none 0 0, .slice none 0 0] 48) := Lib.hid hRg
      clear hRg
      have HX4 : Hid (FL (1 + (4000 + 1) + 1) w7' t4 R) := Lib.hid (hx4)
      clear hx4
      show wpList _ _ _ _ _ _
      simp only [Act.put, zz5, zz6, zz7]
      obtain ⟨c_r_0, c_r_1, c_r_2⟩ := zs3 HR_r.out
      have f_r_0 := HR_r.out.fre 0
      have f_r_1 := HR_r.out.fre 1
      have f_r_2 := HR_r.out.fre 2
      go_upto_region 8 with (fail)
      obtain ⟨w8', hX⟩ : ∃ Z9, Z9 = (((w7'.setCell ⟨b_r, 0, none⟩ (.bool t4.b)).setCell ⟨b_r, 1, none⟩ (.slice t4.a1 t4.n1 t4.c1)).setCell ⟨b_r, 2, none⟩ (.slice t4.a2 t4.n2 t4.c2)) := ⟨_, rfl⟩
      rw [← hX]
      have n_r : Hid (RH w8' b_r #[.bool t4.b, .slice t4.a1 t4.n1 t4.c1, .slice t4.a2 t4.n2 t4.c2] 48) := by rw [hX]; exact Lib.hid ((((HR_r.out).set 0 (.bool t4.b)).set 1 (.slice t4.a1 t4.n1 t4.c1)).set 2 (.slice t4.a2 t4.n2 t4.c2))
      have n_h : Hid (RH w8' b_h #[.bool t3.b, .slice t3.a1 t3.n1 t3.c1, .slice t3.a2 t3.n2 t3.c2] 48) := by rw [hX]; exact Lib.hid (zzo (zzo (zzo (HR_h.out) (by omega)) (by omega)) (by omega))
      have HK_ : ∀ p : Addr, p.block ≠ b_r → w8'.cell? p = w7'.cell? p := fun p hp => by rw [hX]; exact (cs_other' hp).trans ((cs_other' hp).trans (cs_other' hp))
      have n_HX3 : Hid (FL (4000 + 1) w8' t3 h) := Lib.hid (HX3.out.far HR_r.out.box (noI_all (by simp [isI])) HK_)
      have n_HX4 : Hid (FL (1 + (4000 + 1) + 1) w8' t4 R) := Lib.hid (HX4.out.far HR_r.out.box (noI_all (by simp [isI])) HK_)
      have nW : Hid (Below w.heap.size w w8') := by rw [hX]; exact Lib.hid (zzw (zzw (zzw (HW.out) (by omega)) (by omega)) (by omega))
      clear c_r_0 c_r_1 c_r_2 f_r_0 f_r_1 f_r_2
      clear hX HK_ HW HR_h HR_r HX3 HX4
      have HR_h := n_h; clear n_h
      have HR_r := n_r; clear n_r
      have HX3 := n_HX3; clear n_HX3
      have HX4 := n_HX4; clear n_HX4
      have HW := nW; clear nW
      go_wp2_with fail
      refine (tails_at n' m' (by omega) (by omega) w8').mono ?_
      rintro e w9' ⟨a9, c9, us, rfl, hs9, ht9, hbz⟩
      replace HR_h := Lib.hid (HR_h.out.ext hbz)
      replace HR_r := Lib.hid (HR_r.out.ext hbz)
      replace HX3 := Lib.hid (HX3.out.ext hbz)
      replace HX4 := Lib.hid (HX4.out.ext hbz)
      replace HW := Lib.hid (ext_trans HW.out hbz)
      clear hbz
      have HS : Hid (Sl w9' (.slice a9 us.length c9) us.length (us.flatMap f3L)) := Lib.hid hs9
      clear hs9
      have HTL : Hid (TLs w9' us n' m' (n' + 1)) := Lib.hid ht9
      clear ht9
      go_wp2
      obtain ⟨L, hL⟩ : ∃ L, loR n' m' q = L := ⟨_, rfl⟩
      obtain ⟨H, hH⟩ : ∃ H, hiR n' m' q = H := ⟨_, rfl⟩
      rw [hL, hH] at HN
      have HD0 : Hid (dnLo n' m' h L n' 0) := Lib.hid (by rw [← hL, ← HH.out]; exact dnLo.start _ _ _)
      have HD1 : Hid (highV n' m' R (n' + 1) n' = H) := Lib.hid (by rw [← hH, ← HR.out, ← HH.out]; rfl)
      clear hL hH
      go_loopw [6, 7, 13] (fun l u i wr => ∃ lo hi k : Nat, l = .int .i64 (lo : Int) ∧ u = .int .i64 (hi : Int) ∧ i = .int .i64 (k : Int) ∧ k ≤ n' ∧ Hid (dnLo n' m' h L k lo) ∧ Hid (highV n' m' R hi k = H) ∧ (RH wr b_h #[.bool t3.b, .slice t3.a1 t3.n1 t3.c1, .slice t3.a2 t3.n2 t3.c2] 48) ∧ (RH wr b_r #[.bool t4.b, .slice t4.a1 t4.n1 t4.c1, .slice t4.a2 t4.n2 t4.c2] 48) ∧ (FL (4000 + 1) wr t3 h) ∧ (FL (1 + (4000 + 1) + 1) wr t4 R) ∧ (Sl wr (.slice a9 us.length c9) us.length (us.flatMap f3L)) ∧ (TLs wr us n' m' (n' + 1)) ∧ (Below w.heap.size w wr)) (fun _ _ i _ => (intOf i).toNat)
      case atStart => exact ⟨0, n' + 1, n', rfl, by go_num, rfl, Nat.le_refl _, HD0, HD1, HR_h.out, HR_r.out, HX3.out, HX4.out, HS.out, HTL.out, HW.out⟩
      case round =>
       clear HD0 HD1 HR_h HR_r HX3 HX4 HS HTL HW
       obtain ⟨lo, hi, k, rfl, rfl, rfl, hkn, HD, HE, q_HR_h, q_HR_r, q_HX3, q_HX4, q_HS, q_HTL, q_HW⟩ := hrel
       have HR_h := Lib.hid q_HR_h
       have HR_r := Lib.hid q_HR_r
       have HX3 := Lib.hid q_HX3
       have HX4 := Lib.hid q_HX4
       have HS := Lib.hid q_HS
       have HTL := Lib.hid q_HTL
       have HW := Lib.hid q_HW
       clear q_HR_h q_HR_r q_HX3 q_HX4 q_HS q_HTL q_HW
       generalize hX : wr = X at *
       clear hX
       have hk0 : (0 : Int) ≤ (k : Int) := Int.natCast_nonneg _
       have hk60 : (k : Int) ≤ 60 := by omega
       by_cases hk : 1 ≤ k
       ·obtain ⟨j, hj⟩ : ∃ j, k = j + 1 := ⟨k - 1, by omega⟩
        have HJ := Lib.hid hj
        have hki : (1 : Int) ≤ (k : Int) := by omega
        have hkj : (k : Int) - 1 = (j : Int) := by omega
        have HKJ := Lib.hid hkj
        have hul : us.length = n' + 2 := by rw [HTL.out.len]
        have hku : k < us.length := by omega
        clear hj hkj
        obtain ⟨te, hte⟩ : ∃ t, us[k]? = some t := ⟨_, List.getElem?_eq_getElem (by omega)⟩
        obtain ⟨pbe, poe, hpe, hcse⟩ := (HS.out).elem (f := f3L) f3_len (by omega : 0 < 3) hte
        subst hpe
        have ee0 : X.cell? ⟨pbe, poe + k * 3, none⟩ = some (.bool te.b) := hcse 0 _ rfl
        have ee1 : X.cell? ⟨pbe, poe + k * 3 + 1, none⟩ = some (.slice te.a1 te.n1 te.c1) := hcse 1 _ rfl
        have ee2 : X.cell? ⟨pbe, poe + k * 3 + 2, none⟩ = some (.slice te.a2 te.n2 te.c2) := hcse 2 _ rfl
        clear hcse
        have HTE := Lib.hid (HTL.out.ok k te hte)
        obtain ⟨T, hT⟩ : ∃ T, tailQ n' m' k = T := ⟨_, rfl⟩
        rw [hT] at HTE
        have HT := Lib.hid hT
        have HTX : Hid (FL 100 X te T) := Lib.hid HTE.out.fl
        have hk1 : (k : Int) < (us.length : Int) := by omega
        have hk3 : (k : Int).toNat = k := by omega
        obtain ⟨z1, hz1⟩ : ∃ z, cmpQ T R = z := ⟨_, rfl⟩
        have HZ1 := Lib.hid hz1
        obtain ⟨z2, hz2⟩ : ∃ z, cmpQ T h = z := ⟨_, rfl⟩
        have HZ2 := Lib.hid hz2
        clear hT hte hz1 hz2 hk HTE hul hku
        have HEC0 : Hid (CL X ⟨pbe, poe + k * 3, none⟩ (.bool te.b)) := Lib.hid ee0
        have HEC1 : Hid (CL X ⟨pbe, poe + k * 3 + 1, none⟩ (.slice te.a1 te.n1 te.c1)) := Lib.hid ee1
        have HEC2 : Hid (CL X ⟨pbe, poe + k * 3 + 2, none⟩ (.slice te.a2 te.n2 te.c2)) := Lib.hid ee2
        obtain ⟨c_r_0, c_r_1, c_r_2⟩ := zs3 HR_r.out
        go_upto_region 13 with (fail)
        refine Grow.wp_region_grow 6 [TP.eq (.slice (some ⟨pbe, poe, none⟩) us.length c9), TP.eq (.int .i64 ((k : Int))), TP.eq (.pointer (some ⟨pbe, poe + k * 3, none⟩)), TP.eq (f3V te), TP.eq (f3V t4), TP.eq (.int .i64 (z1))] [[], [], [0, 1], [2], [], [3, 4]] (by kernel_rfl) (by kernel_rfl) ⟨?o0p, ?o1p, ?o2p, ?o3p, ?o4p, ?o5p, trivial⟩ ?_
        case o0p | o1p =>
         intro w' hb
         show wpList _ _ _ _ _ _
         go_wp2
         exact ⟨rfl, Below.refl _ _, rfl⟩
        case o2p =>
         intro w' hb v1 hv1 v2 hv2
         obtain rfl : v1 = _ := hv1
         obtain rfl : v2 = _ := hv2
         show wpList _ _ _ _ _ _
         simp only [Grow.dstOf, zz1, zz2, zz3, zz4, Act.put, zz5, zz6, zz7]
         go_wp2
         exact ⟨rfl, Below.refl _ _, rfl⟩
        case o3p =>
         intro w' hb v1 hv1
         obtain rfl : v1 = _ := hv1
         have ee0' := zzc hb ee0
         have ee1' := zzc hb ee1
         have ee2' := zzc hb ee2
         show wpList _ _ _ _ _ _
         simp only [Grow.dstOf, zz1, zz2, zz3, zz4, Act.put, zz5, zz6, zz7]
         go_wp2
         exact ⟨rfl, Below.refl _ _, rfl⟩
        case o4p =>
         intro w' hb
         have c_r_0' := zzc hb c_r_0
         have c_r_1' := zzc hb c_r_1
         have c_r_2' := zzc hb c_r_2
         show wpList _ _ _ _ _ _
         go_wp2
         exact ⟨rfl, Below.refl _ _, rfl⟩
        case o5p =>
         intro w' hb v1 hv1 v2 hv2
         obtain rfl : v1 = _ := hv1
         obtain rfl : v2 = _ := hv2
         show wpList _ _ _ _ _ _
         simp only [Grow.dstOf, zz1, zz2, zz3, zz4, Act.put, zz5, zz6, zz7]
         go_wp2_with fail
         refine (florder_at 100 (1 + (4000 + 1) + 1) (by decide) (by decide) te t4 T R z1 HZ1.out w' (HTX.out.ext hb) (HX4.out.ext hb)).mono ?_
         rintro e wz ⟨rfl, hbz⟩
         go_wp2
         exact ⟨rfl, hbz, rfl⟩
        intro w10' hbz u0 hu0 u1 hu1 u2 hu2 u3 hu3 u4 hu4 u5 hu5
        obtain rfl : u5 = _ := hu5
        clear hu0 hu1 hu2 hu3 hu4
        replace HR_h := Lib.hid (HR_h.out.ext hbz)
        replace HR_r := Lib.hid (HR_r.out.ext hbz)
        replace HX3 := Lib.hid (HX3.out.ext hbz)
        replace HX4 := Lib.hid (HX4.out.ext hbz)
        replace HS := Lib.hid (HS.out.ext hbz)
        replace HTL := Lib.hid (HTL.out.ext hbz)
        replace HTX := Lib.hid (HTX.out.ext hbz)
        replace HEC0 := Lib.hid (HEC0.out.ext hbz)
        replace HEC1 := Lib.hid (HEC1.out.ext hbz)
        replace HEC2 := Lib.hid (HEC2.out.ext hbz)
        replace HW := Lib.hid (ext_trans HW.out hbz)
        clear ee0 ee1 ee2 c_r_0 c_r_1 c_r_2
        clear hbz
        show wpList _ _ _ _ _ _
        simp only [Act.put, zz5, zz6, zz7]
        by_cases hc9 : R ≤ T
        ·have hz1 : decide (0 ≤ z1) = true := by rw [← HZ1.out, cmpQ_ge0]; exact decide_eq_true hc9
         have HCC := Lib.hid hc9
         clear hc9
         go_upto_region 15 with (fail)
         by_cases hl : lo = 0
         ·subst hl
          by_cases ht : T ≤ h
          ·have hz2 : decide (z2 ≤ 0) = true := by rw [← HZ2.out, cmpQ_le]; exact decide_eq_true ht
           have HTT := Lib.hid ht
           clear ht
           have ee0 : w10'.cell? ⟨pbe, poe + k * 3, none⟩ = some (.bool te.b) := HEC0.out
           have ee1 : w10'.cell? ⟨pbe, poe + k * 3 + 1, none⟩ = some (.slice te.a1 te.n1 te.c1) := HEC1.out
           have ee2 : w10'.cell? ⟨pbe, poe + k * 3 + 2, none⟩ = some (.slice te.a2 te.n2 te.c2) := HEC2.out
           obtain ⟨c_h_0, c_h_1, c_h_2⟩ := zs3 HR_h.out
           refine Grow.wp_region_grow 10 [TP.eq (.int .i64 ((0 : Int))), TP.eq (.bool (true)), TP.eq (.bool (true)), TP.eq (.slice (some ⟨pbe, poe, none⟩) us.length c9), TP.eq (.int .i64 ((k : Int))), TP.eq (.pointer (some ⟨pbe, poe + k * 3, none⟩)), TP.eq (f3V te), TP.eq (f3V t3), TP.eq (.int .i64 (z2)), TP.eq (.bool (true))] [[], [0], [1], [2], [2], [2, 3, 4], [2, 5], [2], [2, 6, 7], [2, 8]] (by kernel_rfl) (by kernel_rfl) ⟨?o0q, ?o1q, ?o2q, ?o3q, ?o4q, ?o5q, ?o6q, ?o7q, ?o8q, ?o9q, trivial⟩ ?_
           case o0q =>
            intro w' hb
            show wpList _ _ _ _ _ _
            go_wp2
            exact ⟨rfl, Below.refl _ _, rfl⟩
           case o1q =>
            intro w' hb v1 hv1
            obtain rfl : v1 = _ := hv1
            show wpList _ _ _ _ _ _
            simp only [Grow.dstOf, zz1, zz3, zz4, Act.put, zz5, zz6, zz7]
            go_wp2
            exact ⟨rfl, Below.refl _ _, rfl⟩
           case o2q | o3q | o4q =>
            intro w' hb v1 hv1
            obtain rfl : v1 = _ := hv1
            show wpList _ _ _ _ _ _
            simp only [Grow.dstOf, zz1, zz2, zz3, zz4, Act.put, zz5, zz6, zz7]
            go_wp2
            exact ⟨rfl, Below.refl _ _, rfl⟩
           case o5q =>
            intro w' hb v1 hv1 v2 hv2 v3 hv3
            obtain rfl : v1 = _ := hv1
            obtain rfl : v2 = _ := hv2
            obtain rfl : v3 = _ := hv3
            show wpList _ _ _ _ _ _
            simp only [Grow.dstOf, zz1, zz2, zz3, zz4, Act.put, zz5, zz6, zz7]
            go_wp2
            exact ⟨rfl, Below.refl _ _, rfl⟩
           case o6q =>
            intro w' hb v1 hv1 v2 hv2
            obtain rfl : v1 = _ := hv1
            obtain rfl : v2 = _ := hv2
            have ee0' := zzc hb ee0
            have ee1' := zzc hb ee1
            have ee2' := zzc hb ee2
            show wpList _ _ _ _ _ _
            simp only [Grow.dstOf, zz1, zz2, zz3, zz4, Act.put, zz5, zz6, zz7]
            go_wp2
            exact ⟨rfl, Below.refl _ _, rfl⟩
           case o7q =>
            intro w' hb v1 hv1
            obtain rfl : v1 = _ := hv1
            have c_h_0' := zzc hb c_h_0
            have c_h_1' := zzc hb c_h_1
            have c_h_2' := zzc hb c_h_2
            show wpList _ _ _ _ _ _
            simp only [Grow.dstOf, zz1, zz2, zz3, zz4, Act.put, zz5, zz6, zz7]
            go_wp2
            exact ⟨rfl, Below.refl _ _, rfl⟩
           case o8q =>
            intro w' hb v1 hv1 v2 hv2 v3 hv3
            obtain rfl : v1 = _ := hv1
            obtain rfl : v2 = _ := hv2
            obtain rfl : v3 = _ := hv3
            show wpList _ _ _ _ _ _
            simp only [Grow.dstOf, zz1, zz2, zz3, zz4, Act.put, zz5, zz6, zz7]
            go_wp2_with fail
            refine (florder_at 100 (4000 + 1) (by decide) (by decide) te t3 T h z2 HZ2.out w' (HTX.out.ext hb) (HX3.out.ext hb)).mono ?_
            rintro e wz ⟨rfl, hbz⟩
            go_wp2
            exact ⟨rfl, hbz, rfl⟩
           case o9q =>
            intro w' hb v1 hv1 v2 hv2
            obtain rfl : v1 = _ := hv1
            obtain rfl : v2 = _ := hv2
            show wpList _ _ _ _ _ _
            simp only [Grow.dstOf, zz1, zz2, zz3, zz4, Act.put, zz5, zz6, zz7]
            go_wp2
            exact ⟨rfl, Below.refl _ _, rfl⟩
           intro w11' hbz u0 hu0 u1 hu1 u2 hu2 u3 hu3 u4 hu4 u5 hu5 u6 hu6 u7 hu7 u8 hu8 u9 hu9
           obtain rfl : u2 = _ := hu2
           obtain rfl : u9 = _ := hu9
           clear hu0 hu1 hu3 hu4 hu5 hu6 hu7 hu8
           replace HR_h := Lib.hid (HR_h.out.ext hbz)
           replace HR_r := Lib.hid (HR_r.out.ext hbz)
           replace HX3 := Lib.hid (HX3.out.ext hbz)
           replace HX4 := Lib.hid (HX4.out.ext hbz)
           replace HS := Lib.hid (HS.out.ext hbz)
           replace HTL := Lib.hid (HTL.out.ext hbz)
           replace HTX := Lib.hid (HTX.out.ext hbz)
           replace HEC0 := Lib.hid (HEC0.out.ext hbz)
           replace HEC1 := Lib.hid (HEC1.out.ext hbz)
           replace HEC2 := Lib.hid (HEC2.out.ext hbz)
           replace HW := Lib.hid (ext_trans HW.out hbz)
           clear ee0 ee1 ee2 c_h_0 c_h_1 c_h_2
           clear hbz
           show wpList _ _ _ _ _ _
           simp only [Act.put, zz5, zz6, zz7]
           clear HTX
           clear HEC0
           clear HEC1
           clear HEC2
           go_wp2
           go_roundw
           case rel => exact ⟨k, k, j, by go_num, by go_num, by have := HKJ.out; go_num, by have := HJ.out; omega, Lib.hid (by have u := HD.out; rw [HJ.out] at u; have u2 := u.take (by rw [← HJ.out, HT.out]; exact HTT.out); rw [← HJ.out] at u2; exact u2), Lib.hid (by have u := HE.out; rw [HJ.out] at u ⊢; rw [dnHi_next, if_pos (by rw [← HJ.out, HT.out]; exact HCC.out)] at u; exact u), HR_h.out, HR_r.out, HX3.out, HX4.out, HS.out, HTL.out, HW.out⟩
           case measure => have := HJ.out; simp [intOf]; omega
          ·have hz2 : decide (z2 ≤ 0) = false := by rw [← HZ2.out, cmpQ_le]; exact decide_eq_false ht
           have HTT := Lib.hid ht
           clear ht
           have ee0 : w10'.cell? ⟨pbe, poe + k * 3, none⟩ = some (.bool te.b) := HEC0.out
           have ee1 : w10'.cell? ⟨pbe, poe + k * 3 + 1, none⟩ = some (.slice te.a1 te.n1 te.c1) := HEC1.out
           have ee2 : w10'.cell? ⟨pbe, poe + k * 3 + 2, none⟩ = some (.slice te.a2 te.n2 te.c2) := HEC2.out
           obtain ⟨c_h_0, c_h_1, c_h_2⟩ := zs3 HR_h.out
           refine Grow.wp_region_grow 10 [TP.eq (.int .i64 ((0 : Int))), TP.eq (.bool (true)), TP.eq (.bool (true)), TP.eq (.slice (some ⟨pbe, poe, none⟩) us.length c9), TP.eq (.int .i64 ((k : Int))), TP.eq (.pointer (some ⟨pbe, poe + k * 3, none⟩)), TP.eq (f3V te), TP.eq (f3V t3), TP.eq (.int .i64 (z2)), TP.eq (.bool (false))] [[], [0], [1], [2], [2], [2, 3, 4], [2, 5], [2], [2, 6, 7], [2, 8]] (by kernel_rfl) (by kernel_rfl) ⟨?o0s, ?o1s, ?o2s, ?o3s, ?o4s, ?o5s, ?o6s, ?o7s, ?o8s, ?o9s, trivial⟩ ?_
           case o0s =>
            intro w' hb
            show wpList _ _ _ _ _ _
            go_wp2
            exact ⟨rfl, Below.refl _ _, rfl⟩
           case o1s =>
            intro w' hb v1 hv1
            obtain rfl : v1 = _ := hv1
            show wpList _ _ _ _ _ _
            simp only [Grow.dstOf, zz1, zz3, zz4, Act.put, zz5, zz6, zz7]
            go_wp2
            exact ⟨rfl, Below.refl _ _, rfl⟩
           case o2s | o3s | o4s =>
            intro w' hb v1 hv1
            obtain rfl : v1 = _ := hv1
            show wpList _ _ _ _ _ _
            simp only [Grow.dstOf, zz1, zz2, zz3, zz4, Act.put, zz5, zz6, zz7]
            go_wp2
            exact ⟨rfl, Below.refl _ _, rfl⟩
           case o5s =>
            intro w' hb v1 hv1 v2 hv2 v3 hv3
            obtain rfl : v1 = _ := hv1
            obtain rfl : v2 = _ := hv2
            obtain rfl : v3 = _ := hv3
            show wpList _ _ _ _ _ _
            simp only [Grow.dstOf, zz1, zz2, zz3, zz4, Act.put, zz5, zz6, zz7]
            go_wp2
            exact ⟨rfl, Below.refl _ _, rfl⟩
           case o6s =>
            intro w' hb v1 hv1 v2 hv2
            obtain rfl : v1 = _ := hv1
            obtain rfl : v2 = _ := hv2
            have ee0' := zzc hb ee0
            have ee1' := zzc hb ee1
            have ee2' := zzc hb ee2
            show wpList _ _ _ _ _ _
            simp only [Grow.dstOf, zz1, zz2, zz3, zz4, Act.put, zz5, zz6, zz7]
            go_wp2
            exact ⟨rfl, Below.refl _ _, rfl⟩
           case o7s =>
            intro w' hb v1 hv1
            obtain rfl : v1 = _ := hv1
            have c_h_0' := zzc hb c_h_0
            have c_h_1' := zzc hb c_h_1
            have c_h_2' := zzc hb c_h_2
            show wpList _ _ _ _ _ _
            simp only [Grow.dstOf, zz1, zz2, zz3, zz4, Act.put, zz5, zz6, zz7]
            go_wp2
            exact ⟨rfl, Below.refl _ _, rfl⟩
           case o8s =>
            intro w' hb v1 hv1 v2 hv2 v3 hv3
            obtain rfl : v1 = _ := hv1
            obtain rfl : v2 = _ := hv2
            obtain rfl : v3 = _ := hv3
            show wpList _ _ _ _ _ _
            simp only [Grow.dstOf, zz1, zz2, zz3, zz4, Act.put, zz5, zz6, zz7]
            go_wp2_with fail
            refine (florder_at 100 (4000 + 1) (by decide) (by decide) te t3 T h z2 HZ2.out w' (HTX.out.ext hb) (HX3.out.ext hb)).mono ?_
            rintro e wz ⟨rfl, hbz⟩
            go_wp2
            exact ⟨rfl, hbz, rfl⟩
           case o9s =>
            intro w' hb v1 hv1 v2 hv2
            obtain rfl : v1 = _ := hv1
            obtain rfl : v2 = _ := hv2
            show wpList _ _ _ _ _ _
            simp only [Grow.dstOf, zz1, zz2, zz3, zz4, Act.put, zz5, zz6, zz7]
            go_wp2
            exact ⟨rfl, Below.refl _ _, rfl⟩
           intro w11' hbz u0 hu0 u1 hu1 u2 hu2 u3 hu3 u4 hu4 u5 hu5 u6 hu6 u7 hu7 u8 hu8 u9 hu9
           obtain rfl : u2 = _ := hu2
           obtain rfl : u9 = _ := hu9
           clear hu0 hu1 hu3 hu4 hu5 hu6 hu7 hu8
           replace HR_h := Lib.hid (HR_h.out.ext hbz)
           replace HR_r := Lib.hid (HR_r.out.ext hbz)
           replace HX3 := Lib.hid (HX3.out.ext hbz)
           replace HX4 := Lib.hid (HX4.out.ext hbz)
           replace HS := Lib.hid (HS.out.ext hbz)
           replace HTL := Lib.hid (HTL.out.ext hbz)
           replace HTX := Lib.hid (HTX.out.ext hbz)
           replace HEC0 := Lib.hid (HEC0.out.ext hbz)
           replace HEC1 := Lib.hid (HEC1.out.ext hbz)
           replace HEC2 := Lib.hid (HEC2.out.ext hbz)
           replace HW := Lib.hid (ext_trans HW.out hbz)
           clear ee0 ee1 ee2 c_h_0 c_h_1 c_h_2
           clear hbz
           show wpList _ _ _ _ _ _
           simp only [Act.put, zz5, zz6, zz7]
           clear HTX
           clear HEC0
           clear HEC1
           clear HEC2
           go_wp2
           go_roundw
           case rel => exact ⟨0, k, j, by go_num, by go_num, by have := HKJ.out; go_num, by have := HJ.out; omega, Lib.hid (by have u := HD.out; rw [HJ.out] at u; exact u.pass (by rw [← HJ.out, HT.out]; exact HTT.out)), Lib.hid (by have u := HE.out; rw [HJ.out] at u ⊢; rw [dnHi_next, if_pos (by rw [← HJ.out, HT.out]; exact HCC.out)] at u; exact u), HR_h.out, HR_r.out, HX3.out, HX4.out, HS.out, HTL.out, HW.out⟩
           case measure => have := HJ.out; simp [intOf]; omega
         ·have hl0 : ((lo : Int) == 0) = false := beq_eq_false_iff_ne.2 (by omega)
          have HLN := Lib.hid hl
          clear hl
          refine Grow.wp_region_grow 10 [TP.eq (.int .i64 ((lo : Int))), TP.eq (.bool (false)), TP.eq (.bool (false)), TP.eq undef, TP.eq undef, TP.eq undef, TP.eq undef, TP.eq undef, TP.eq undef, TP.eq undef] [[], [0], [1], [2], [2], [2, 3, 4], [2, 5], [2], [2, 6, 7], [2, 8]] (by kernel_rfl) (by kernel_rfl) ⟨?o0t, ?o1t, ?o2t, ?o3t, ?o4t, ?o5t, ?o6t, ?o7t, ?o8t, ?o9t, trivial⟩ ?_
          case o0t =>
           intro w' hb
           show wpList _ _ _ _ _ _
           go_wp2
           exact ⟨rfl, Below.refl _ _, rfl⟩
          case o1t =>
           intro w' hb v1 hv1
           obtain rfl : v1 = _ := hv1
           show wpList _ _ _ _ _ _
           simp only [Grow.dstOf, zz1, zz3, zz4, Act.put, zz5, zz6, zz7]
           go_wp2
           exact ⟨rfl, Below.refl _ _, rfl⟩
          case o2t | o3t | o4t | o7t =>
           intro w' hb v1 hv1
           obtain rfl : v1 = _ := hv1
           show wpList _ _ _ _ _ _
           simp only [Grow.dstOf, zz1, zz2, zz3, zz4, Act.put, zz5, zz6, zz7]
           go_wp2
           exact ⟨rfl, Below.refl _ _, rfl⟩
          case o5t | o8t =>
           intro w' hb v1 hv1 v2 hv2 v3 hv3
           obtain rfl : v1 = _ := hv1
           obtain rfl : v2 = _ := hv2
           obtain rfl : v3 = _ := hv3
           show wpList _ _ _ _ _ _
           simp only [Grow.dstOf, zz1, zz2, zz3, zz4, Act.put, zz5, zz6, zz7]
           go_wp2
           exact ⟨rfl, Below.refl _ _, rfl⟩
          case o6t | o9t =>
           intro w' hb v1 hv1 v2 hv2
           obtain rfl : v1 = _ := hv1
           obtain rfl : v2 = _ := hv2
           show wpList _ _ _ _ _ _
           simp only [Grow.dstOf, zz1, zz2, zz3, zz4, Act.put, zz5, zz6, zz7]
           go_wp2
           exact ⟨rfl, Below.refl _ _, rfl⟩
          intro w11' hbz u0 hu0 u1 hu1 u2 hu2 u3 hu3 u4 hu4 u5 hu5 u6 hu6 u7 hu7 u8 hu8 u9 hu9
          obtain rfl : u2 = _ := hu2
          obtain rfl : u9 = _ := hu9
          clear hu0 hu1 hu3 hu4 hu5 hu6 hu7 hu8
          replace HR_h := Lib.hid (HR_h.out.ext hbz)
          replace HR_r := Lib.hid (HR_r.out.ext hbz)
          replace HX3 := Lib.hid (HX3.out.ext hbz)
          replace HX4 := Lib.hid (HX4.out.ext hbz)
          replace HS := Lib.hid (HS.out.ext hbz)
          replace HTL := Lib.hid (HTL.out.ext hbz)
          replace HTX := Lib.hid (HTX.out.ext hbz)
          replace HEC0 := Lib.hid (HEC0.out.ext hbz)
          replace HEC1 := Lib.hid (HEC1.out.ext hbz)
          replace HEC2 := Lib.hid (HEC2.out.ext hbz)
          replace HW := Lib.hid (ext_trans HW.out hbz)
          clear hbz
          show wpList _ _ _ _ _ _
          simp only [Act.put, zz5, zz6, zz7]
          clear HTX
          clear HEC0
          clear HEC1
          clear HEC2
          go_wp2
          go_roundw
          case rel => exact ⟨lo, k, j, by go_num, by go_num, by have := HKJ.out; go_num, by have := HJ.out; omega, Lib.hid (by have u := HD.out; rw [HJ.out] at u; exact u.keep HLN.out), Lib.hid (by have u := HE.out; rw [HJ.out] at u ⊢; rw [dnHi_next, if_pos (by rw [← HJ.out, HT.out]; exact HCC.out)] at u; exact u), HR_h.out, HR_r.out, HX3.out, HX4.out, HS.out, HTL.out, HW.out⟩
          case measure => have := HJ.out; simp [intOf]; omega
        ·have hz1 : decide (0 ≤ z1) = false := by rw [← HZ1.out, cmpQ_ge0]; exact decide_eq_false hc9
         have HCC := Lib.hid hc9
         clear hc9
         go_upto_region 15 with (fail)
         by_cases hl : lo = 0
         ·subst hl
          by_cases ht : T ≤ h
          ·have hz2 : decide (z2 ≤ 0) = true := by rw [← HZ2.out, cmpQ_le]; exact decide_eq_true ht
           have HTT := Lib.hid ht
           clear ht
           have ee0 : w10'.cell? ⟨pbe, poe + k * 3, none⟩ = some (.bool te.b) := HEC0.out
           have ee1 : w10'.cell? ⟨pbe, poe + k * 3 + 1, none⟩ = some (.slice te.a1 te.n1 te.c1) := HEC1.out
           have ee2 : w10'.cell? ⟨pbe, poe + k * 3 + 2, none⟩ = some (.slice te.a2 te.n2 te.c2) := HEC2.out
           obtain ⟨c_h_0, c_h_1, c_h_2⟩ := zs3 HR_h.out
           refine Grow.wp_region_grow 10 [TP.eq (.int .i64 ((0 : Int))), TP.eq (.bool (true)), TP.eq (.bool (true)), TP.eq (.slice (some ⟨pbe, poe, none⟩) us.length c9), TP.eq (.int .i64 ((k : Int))), TP.eq (.pointer (some ⟨pbe, poe + k * 3, none⟩)), TP.eq (f3V te), TP.eq (f3V t3), TP.eq (.int .i64 (z2)), TP.eq (.bool (true))] [[], [0], [1], [2], [2], [2, 3, 4], [2, 5], [2], [2, 6, 7], [2, 8]] (by kernel_rfl) (by kernel_rfl) ⟨?o0q, ?o1q, ?o2q, ?o3q, ?o4q, ?o5q, ?o6q, ?o7q, ?o8q, ?o9q, trivial⟩ ?_
           case o0q =>
            intro w' hb
            show wpList _ _ _ _ _ _
            go_wp2
            exact ⟨rfl, Below.refl _ _, rfl⟩
           case o1q =>
            intro w' hb v1 hv1
            obtain rfl : v1 = _ := hv1
            show wpList _ _ _ _ _ _
            simp only [Grow.dstOf, zz1, zz3, zz4, Act.put, zz5, zz6, zz7]
            go_wp2
            exact ⟨rfl, Below.refl _ _, rfl⟩
           case o2q | o3q | o4q =>
            intro w' hb v1 hv1
            obtain rfl : v1 = _ := hv1
            show wpList _ _ _ _ _ _
            simp only [Grow.dstOf, zz1, zz2, zz3, zz4, Act.put, zz5, zz6, zz7]
            go_wp2
            exact ⟨rfl, Below.refl _ _, rfl⟩
           case o5q =>
            intro w' hb v1 hv1 v2 hv2 v3 hv3
            obtain rfl : v1 = _ := hv1
            obtain rfl : v2 = _ := hv2
            obtain rfl : v3 = _ := hv3
            show wpList _ _ _ _ _ _
            simp only [Grow.dstOf, zz1, zz2, zz3, zz4, Act.put, zz5, zz6, zz7]
            go_wp2
            exact ⟨rfl, Below.refl _ _, rfl⟩
           case o6q =>
            intro w' hb v1 hv1 v2 hv2
            obtain rfl : v1 = _ := hv1
            obtain rfl : v2 = _ := hv2
            have ee0' := zzc hb ee0
            have ee1' := zzc hb ee1
            have ee2' := zzc hb ee2
            show wpList _ _ _ _ _ _
            simp only [Grow.dstOf, zz1, zz2, zz3, zz4, Act.put, zz5, zz6, zz7]
            go_wp2
            exact ⟨rfl, Below.refl _ _, rfl⟩
           case o7q =>
            intro w' hb v1 hv1
            obtain rfl : v1 = _ := hv1
            have c_h_0' := zzc hb c_h_0
            have c_h_1' := zzc hb c_h_1
            have c_h_2' := zzc hb c_h_2
            show wpList _ _ _ _ _ _
            simp only [Grow.dstOf, zz1, zz2, zz3, zz4, Act.put, zz5, zz6, zz7]
            go_wp2
            exact ⟨rfl, Below.refl _ _, rfl⟩
           case o8q =>
            intro w' hb v1 hv1 v2 hv2 v3 hv3
            obtain rfl : v1 = _ := hv1
            obtain rfl : v2 = _ := hv2
            obtain rfl : v3 = _ := hv3
            show wpList _ _ _ _ _ _
            simp only [Grow.dstOf, zz1, zz2, zz3, zz4, Act.put, zz5, zz6, zz7]
            go_wp2_with fail
            refine (florder_at 100 (4000 + 1) (by decide) (by decide) te t3 T h z2 HZ2.out w' (HTX.out.ext hb) (HX3.out.ext hb)).mono ?_
            rintro e wz ⟨rfl, hbz⟩
            go_wp2
            exact ⟨rfl, hbz, rfl⟩
           case o9q =>
            intro w' hb v1 hv1 v2 hv2
            obtain rfl : v1 = _ := hv1
            obtain rfl : v2 = _ := hv2
            show wpList _ _ _ _ _ _
            simp only [Grow.dstOf, zz1, zz2, zz3, zz4, Act.put, zz5, zz6, zz7]
            go_wp2
            exact ⟨rfl, Below.refl _ _, rfl⟩
           intro w11' hbz u0 hu0 u1 hu1 u2 hu2 u3 hu3 u4 hu4 u5 hu5 u6 hu6 u7 hu7 u8 hu8 u9 hu9
           obtain rfl : u2 = _ := hu2
           obtain rfl : u9 = _ := hu9
           clear hu0 hu1 hu3 hu4 hu5 hu6 hu7 hu8
           replace HR_h := Lib.hid (HR_h.out.ext hbz)
           replace HR_r := Lib.hid (HR_r.out.ext hbz)
           replace HX3 := Lib.hid (HX3.out.ext hbz)
           replace HX4 := Lib.hid (HX4.out.ext hbz)
           replace HS := Lib.hid (HS.out.ext hbz)
           replace HTL := Lib.hid (HTL.out.ext hbz)
           replace HTX := Lib.hid (HTX.out.ext hbz)
           replace HEC0 := Lib.hid (HEC0.out.ext hbz)
           replace HEC1 := Lib.hid (HEC1.out.ext hbz)
           replace HEC2 := Lib.hid (HEC2.out.ext hbz)
           replace HW := Lib.hid (ext_trans HW.out hbz)
           clear ee0 ee1 ee2 c_h_0 c_h_1 c_h_2
           clear hbz
           show wpList _ _ _ _ _ _
           simp only [Act.put, zz5, zz6, zz7]
           clear HTX
           clear HEC0
           clear HEC1
           clear HEC2
           go_wp2
           go_roundw
           case rel => exact ⟨k, hi, j, by go_num, by go_num, by have := HKJ.out; go_num, by have := HJ.out; omega, Lib.hid (by have u := HD.out; rw [HJ.out] at u; have u2 := u.take (by rw [← HJ.out, HT.out]; exact HTT.out); rw [← HJ.out] at u2; exact u2), Lib.hid (by have u := HE.out; rw [HJ.out] at u; rw [dnHi_next, if_neg (by rw [← HJ.out, HT.out]; exact HCC.out)] at u; exact u), HR_h.out, HR_r.out, HX3.out, HX4.out, HS.out, HTL.out, HW.out⟩
           case measure => have := HJ.out; simp [intOf]; omega
          ·have hz2 : decide (z2 ≤ 0) = false := by rw [← HZ2.out, cmpQ_le]; exact decide_eq_false ht
           have HTT := Lib.hid ht
           clear ht
           have ee0 : w10'.cell? ⟨pbe, poe + k * 3, none⟩ = some (.bool te.b) := HEC0.out
           have ee1 : w10'.cell? ⟨pbe, poe + k * 3 + 1, none⟩ = some (.slice te.a1 te.n1 te.c1) := HEC1.out
           have ee2 : w10'.cell? ⟨pbe, poe + k * 3 + 2, none⟩ = some (.slice te.a2 te.n2 te.c2) := HEC2.out
           obtain ⟨c_h_0, c_h_1, c_h_2⟩ := zs3 HR_h.out
           refine Grow.wp_region_grow 10 [TP.eq (.int .i64 ((0 : Int))), TP.eq (.bool (true)), TP.eq (.bool (true)), TP.eq (.slice (some ⟨pbe, poe, none⟩) us.length c9), TP.eq (.int .i64 ((k : Int))), TP.eq (.pointer (some ⟨pbe, poe + k * 3, none⟩)), TP.eq (f3V te), TP.eq (f3V t3), TP.eq (.int .i64 (z2)), TP.eq (.bool (false))] [[], [0], [1], [2], [2], [2, 3, 4], [2, 5], [2], [2, 6, 7], [2, 8]] (by kernel_rfl) (by kernel_rfl) ⟨?o0s, ?o1s, ?o2s, ?o3s, ?o4s, ?o5s, ?o6s, ?o7s, ?o8s, ?o9s, trivial⟩ ?_
           case o0s =>
            intro w' hb
            show wpList _ _ _ _ _ _
            go_wp2
            exact ⟨rfl, Below.refl _ _, rfl⟩
           case o1s =>
            intro w' hb v1 hv1
            obtain rfl : v1 = _ := hv1
            show wpList _ _ _ _ _ _
            simp only [Grow.dstOf, zz1, zz3, zz4, Act.put, zz5, zz6, zz7]
            go_wp2
            exact ⟨rfl, Below.refl _ _, rfl⟩
           case o2s | o3s | o4s =>
            intro w' hb v1 hv1
            obtain rfl : v1 = _ := hv1
            show wpList _ _ _ _ _ _
            simp only [Grow.dstOf, zz1, zz2, zz3, zz4, Act.put, zz5, zz6, zz7]
            go_wp2
            exact ⟨rfl, Below.refl _ _, rfl⟩
           case o5s =>
            intro w' hb v1 hv1 v2 hv2 v3 hv3
            obtain rfl : v1 = _ := hv1
            obtain rfl : v2 = _ := hv2
            obtain rfl : v3 = _ := hv3
            show wpList _ _ _ _ _ _
            simp only [Grow.dstOf, zz1, zz2, zz3, zz4, Act.put, zz5, zz6, zz7]
            go_wp2
            exact ⟨rfl, Below.refl _ _, rfl⟩
           case o6s =>
            intro w' hb v1 hv1 v2 hv2
            obtain rfl : v1 = _ := hv1
            obtain rfl : v2 = _ := hv2
            have ee0' := zzc hb ee0
            have ee1' := zzc hb ee1
            have ee2' := zzc hb ee2
            show wpList _ _ _ _ _ _
            simp only [Grow.dstOf, zz1, zz2, zz3, zz4, Act.put, zz5, zz6, zz7]
            go_wp2
            exact ⟨rfl, Below.refl _ _, rfl⟩
           case o7s =>
            intro w' hb v1 hv1
            obtain rfl : v1 = _ := hv1
            have c_h_0' := zzc hb c_h_0
            have c_h_1' := zzc hb c_h_1
            have c_h_2' := zzc hb c_h_2
            show wpList _ _ _ _ _ _
            simp only [Grow.dstOf, zz1, zz2, zz3, zz4, Act.put, zz5, zz6, zz7]
            go_wp2
            exact ⟨rfl, Below.refl _ _, rfl⟩
           case o8s =>
            intro w' hb v1 hv1 v2 hv2 v3 hv3
            obtain rfl : v1 = _ := hv1
            obtain rfl : v2 = _ := hv2
            obtain rfl : v3 = _ := hv3
            show wpList _ _ _ _ _ _
            simp only [Grow.dstOf, zz1, zz2, zz3, zz4, Act.put, zz5, zz6, zz7]
            go_wp2_with fail
            refine (florder_at 100 (4000 + 1) (by decide) (by decide) te t3 T h z2 HZ2.out w' (HTX.out.ext hb) (HX3.out.ext hb)).mono ?_
            rintro e wz ⟨rfl, hbz⟩
            go_wp2
            exact ⟨rfl, hbz, rfl⟩
           case o9s =>
            intro w' hb v1 hv1 v2 hv2
            obtain rfl : v1 = _ := hv1
            obtain rfl : v2 = _ := hv2
            show wpList _ _ _ _ _ _
            simp only [Grow.dstOf, zz1, zz2, zz3, zz4, Act.put, zz5, zz6, zz7]
            go_wp2
            exact ⟨rfl, Below.refl _ _, rfl⟩
           intro w11' hbz u0 hu0 u1 hu1 u2 hu2 u3 hu3 u4 hu4 u5 hu5 u6 hu6 u7 hu7 u8 hu8 u9 hu9
           obtain rfl : u2 = _ := hu2
           obtain rfl : u9 = _ := hu9
           clear hu0 hu1 hu3 hu4 hu5 hu6 hu7 hu8
           replace HR_h := Lib.hid (HR_h.out.ext hbz)
           replace HR_r := Lib.hid (HR_r.out.ext hbz)
           replace HX3 := Lib.hid (HX3.out.ext hbz)
           replace HX4 := Lib.hid (HX4.out.ext hbz)
           replace HS := Lib.hid (HS.out.ext hbz)
           replace HTL := Lib.hid (HTL.out.ext hbz)
           replace HTX := Lib.hid (HTX.out.ext hbz)
           replace HEC0 := Lib.hid (HEC0.out.ext hbz)
           replace HEC1 := Lib.hid (HEC1.out.ext hbz)
           replace HEC2 := Lib.hid (HEC2.out.ext hbz)
           replace HW := Lib.hid (ext_trans HW.out hbz)
           clear ee0 ee1 ee2 c_h_0 c_h_1 c_h_2
           clear hbz
           show wpList _ _ _ _ _ _
           simp only [Act.put, zz5, zz6, zz7]
           clear HTX
           clear HEC0
           clear HEC1
           clear HEC2
           go_wp2
           go_roundw
           case rel => exact ⟨0, hi, j, by go_num, by go_num, by have := HKJ.out; go_num, by have := HJ.out; omega, Lib.hid (by have u := HD.out; rw [HJ.out] at u; exact u.pass (by rw [← HJ.out, HT.out]; exact HTT.out)), Lib.hid (by have u := HE.out; rw [HJ.out] at u; rw [dnHi_next, if_neg (by rw [← HJ.out, HT.out]; exact HCC.out)] at u; exact u), HR_h.out, HR_r.out, HX3.out, HX4.out, HS.out, HTL.out, HW.out⟩
           case measure => have := HJ.out; simp [intOf]; omega
         ·have hl0 : ((lo : Int) == 0) = false := beq_eq_false_iff_ne.2 (by omega)
          have HLN := Lib.hid hl
          clear hl
          refine Grow.wp_region_grow 10 [TP.eq (.int .i64 ((lo : Int))), TP.eq (.bool (false)), TP.eq (.bool (false)), TP.eq undef, TP.eq undef, TP.eq undef, TP.eq undef, TP.eq undef, TP.eq undef, TP.eq undef] [[], [0], [1], [2], [2], [2, 3, 4], [2, 5], [2], [2, 6, 7], [2, 8]] (by kernel_rfl) (by kernel_rfl) ⟨?o0t, ?o1t, ?o2t, ?o3t, ?o4t, ?o5t, ?o6t, ?o7t, ?o8t, ?o9t, trivial⟩ ?_
          case o0t =>
           intro w' hb
           show wpList _ _ _ _ _ _
           go_wp2
           exact ⟨rfl, Below.refl _ _, rfl⟩
          case o1t =>
           intro w' hb v1 hv1
           obtain rfl : v1 = _ := hv1
           show wpList _ _ _ _ _ _
           simp only [Grow.dstOf, zz1, zz3, zz4, Act.put, zz5, zz6, zz7]
           go_wp2
           exact ⟨rfl, Below.refl _ _, rfl⟩
          case o2t | o3t | o4t | o7t =>
           intro w' hb v1 hv1
           obtain rfl : v1 = _ := hv1
           show wpList _ _ _ _ _ _
           simp only [Grow.dstOf, zz1, zz2, zz3, zz4, Act.put, zz5, zz6, zz7]
           go_wp2
           exact ⟨rfl, Below.refl _ _, rfl⟩
          case o5t | o8t =>
           intro w' hb v1 hv1 v2 hv2 v3 hv3
           obtain rfl : v1 = _ := hv1
           obtain rfl : v2 = _ := hv2
           obtain rfl : v3 = _ := hv3
           show wpList _ _ _ _ _ _
           simp only [Grow.dstOf, zz1, zz2, zz3, zz4, Act.put, zz5, zz6, zz7]
           go_wp2
           exact ⟨rfl, Below.refl _ _, rfl⟩
          case o6t | o9t =>
           intro w' hb v1 hv1 v2 hv2
           obtain rfl : v1 = _ := hv1
           obtain rfl : v2 = _ := hv2
           show wpList _ _ _ _ _ _
           simp only [Grow.dstOf, zz1, zz2, zz3, zz4, Act.put, zz5, zz6, zz7]
           go_wp2
           exact ⟨rfl, Below.refl _ _, rfl⟩
          intro w11' hbz u0 hu0 u1 hu1 u2 hu2 u3 hu3 u4 hu4 u5 hu5 u6 hu6 u7 hu7 u8 hu8 u9 hu9
          obtain rfl : u2 = _ := hu2
          obtain rfl : u9 = _ := hu9
          clear hu0 hu1 hu3 hu4 hu5 hu6 hu7 hu8
          replace HR_h := Lib.hid (HR_h.out.ext hbz)
          replace HR_r := Lib.hid (HR_r.out.ext hbz)
          replace HX3 := Lib.hid (HX3.out.ext hbz)
          replace HX4 := Lib.hid (HX4.out.ext hbz)
          replace HS := Lib.hid (HS.out.ext hbz)
          replace HTL := Lib.hid (HTL.out.ext hbz)
          replace HTX := Lib.hid (HTX.out.ext hbz)
          replace HEC0 := Lib.hid (HEC0.out.ext hbz)
          replace HEC1 := Lib.hid (HEC1.out.ext hbz)
          replace HEC2 := Lib.hid (HEC2.out.ext hbz)
          replace HW := Lib.hid (ext_trans HW.out hbz)
          clear hbz
          show wpList _ _ _ _ _ _
          simp only [Act.put, zz5, zz6, zz7]
          clear HTX
          clear HEC0
          clear HEC1
          clear HEC2
          go_wp2
          go_roundw
          case rel => exact ⟨lo, hi, j, by go_num, by go_num, by have := HKJ.out; go_num, by have := HJ.out; omega, Lib.hid (by have u := HD.out; rw [HJ.out] at u; exact u.keep HLN.out), Lib.hid (by have u := HE.out; rw [HJ.out] at u; rw [dnHi_next, if_neg (by rw [← HJ.out, HT.out]; exact HCC.out)] at u; exact u), HR_h.out, HR_r.out, HX3.out, HX4.out, HS.out, HTL.out, HW.out⟩
          case measure => have := HJ.out; simp [intOf]; omega
       ·obtain rfl : k = 0 := by omega
        have HLo := Lib.hid HD.out.done
        have HHi : Hid (hi = H) := Lib.hid HE.out
        clear hk
        go_wp2
        exact bodyPost_ret (v := .tuple #[.int .i64 ((lo : Int)), .int .i64 ((hi : Int)), .int .i64 (0)]) (by simp [results, Tryz.results9, go_sem]) rfl ⟨by rw [HN.out.1, HN.out.2.1, HN.out.2.2, HLo.out, HHi.out], HW.out⟩
 ·have HN := Lib.hid (rn_miss (n := n) (m := m) (a := a) (b := b) (by rw [HF.out]; exact h0))
  have hne : (f != 0) = true := by simpa using h0
  go_wp2
  exact bodyPost_ret (v := .tuple #[.int .i64 (0), .int .i64 (0), .int .i64 (f)]) (by simp [results, Tryz.results9, go_sem]) rfl ⟨by rw [HN.out.1, HN.out.2.1, HN.out.2.2, HF.out], HW.out⟩
end Nt
end Go.Proofs.YtiieckboccbhhaaGreatDoor
