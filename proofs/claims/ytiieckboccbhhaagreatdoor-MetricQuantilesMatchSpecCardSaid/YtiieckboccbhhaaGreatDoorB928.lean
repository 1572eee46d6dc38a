/- Methods of the reference's fractions. Printed by gen_frac.py. -/
import Derived.Test.YtiieckboccbhhaaGreatDoorB927
import Derived.Test.YtiieckboccbhhaaGreatDoorB900
import Derived.Test.YtiieckboccbhhaaGreatDoorB904
import Derived.Test.YtiieckboccbhhaaGreatDoorB923
namespace Go.Proofs.YtiieckboccbhhaaGreatDoor
open Go.RowKit
namespace Nt
set_option maxRecDepth 100000 in
set_option maxHeartbeats 16000000 in
theorem fover_at (t s : F3) (n d m e : Nat) (hd : 0 < d) (hm : 0 < m) (l1 : wlen n ≤ 10000000) (l2 : wlen d ≤ 10000000) (l3 : wlen m ≤ 10000000) (l4 : wlen e ≤ 10000000) (w : World) (hx : FX w t n d) (hy : FX w s m e) : Calls Tryz.prog 29 #[f3V t, f3V s] w (SimPost w (t.b != s.b) (n * e) (d * m)) := by
 have H0a := Lib.hid hx
 clear hx
 have H0b := Lib.hid hy
 clear hy
 go_enter Tryz.func29, Tryz.ntmps29
 go_upto_region 1 with (fail)
 refine wp_frs3 fun w1' hbz hR0 hR1 hR2 => ?_
 have HR_a : Hid (RH w1' w.heap.size #[.bool t.b, .slice t.a1 t.n1 t.c1, .slice t.a2 t.n2 t.c2] 48) := Lib.hid hR0
 have HR_b : Hid (RH w1' (w.heap.size + 1) #[.bool s.b, .slice s.a1 s.n1 s.c1, .slice s.a2 s.n2 s.c2] 48) := Lib.hid hR1
 have HR_o : Hid (RH w1' (w.heap.size + 2) #[.bool false, .slice none 0 0, .slice none 0 0] 48) := Lib.hid hR2
 have HW := Lib.hid hbz
 clear hbz hR0 hR1 hR2
 have Ha : Hid (FX w1' t n d) := Lib.hid (H0a.out.ext HW.out)
 have Hb : Hid (FX w1' s m e) := Lib.hid (H0b.out.ext HW.out)
 clear H0a H0b
 obtain ⟨c_a_0, c_a_1, c_a_2⟩ := zs3 HR_a.out
 obtain ⟨c_b_0, c_b_1, c_b_2⟩ := zs3 HR_b.out
 have hde : 0 < d * m := Nat.mul_pos hd hm
 have w1 := wlen_mul n e
 have w2 := wlen_mul d m
 refine Grow.wp_region_grow 17 [TP.eq (.pointer (some ⟨w.heap.size, 0, none⟩)), TP.eq (.bool t.b), TP.eq (.pointer (some ⟨(w.heap.size + 1), 0, none⟩)), TP.eq (.bool s.b), TP.eq (.bool (t.b != s.b)), TP.eq (.pointer (some ⟨w.heap.size, 1, none⟩)), TP.eq (.slice t.a1 t.n1 t.c1), TP.eq (.pointer (some ⟨(w.heap.size + 1), 2, none⟩)), TP.eq (.slice s.a2 s.n2 s.c2), TP.nat (n * e), TP.eq (.pointer (some ⟨w.heap.size, 2, none⟩)), TP.eq (.slice t.a2 t.n2 t.c2), TP.eq (.pointer (some ⟨(w.heap.size + 1), 1, none⟩)), TP.eq (.slice s.a1 s.n1 s.c1), TP.nat (d * m), TP.frac (t.b != s.b) (n * e) (d * m), TP.sim ((t.b != s.b)) (n * e) (d * m)] [[], [0], [], [2], [1, 3], [], [5], [], [7], [6, 8], [], [10], [], [12], [11, 13], [4, 9, 14], [15]] (by kernel_rfl) (by kernel_rfl) ⟨?o0g, ?o1g, ?o2g, ?o3g, ?o4g, ?o5g, ?o6g, ?o7g, ?o8g, ?o9g, ?o10g, ?o11g, ?o12g, ?o13g, ?o14g, ?o15g, ?o16g, trivial⟩ ?_
 case o0g | o2g | o5g | o7g | o10g | o12g =>
  intro w' hb
  show wpList _ _ _ _ _ _
  go_wp2
  exact ⟨rfl, Below.refl _ _, rfl⟩
 case o1g =>
  intro w' hb v1 hv1
  obtain rfl : v1 = _ := hv1
  have c_a_0' := zzc hb c_a_0
  show wpList _ _ _ _ _ _
  simp only [Grow.dstOf, zz1, zz3, zz4, Act.put, zz5, zz6, zz7]
  go_wp2
  exact ⟨rfl, Below.refl _ _, rfl⟩
 case o3g | o6g | o8g | o11g | o13g =>
  intro w' hb v1 hv1
  obtain rfl : v1 = _ := hv1
  have c_b_0' := zzc hb c_b_0
  have c_a_1' := zzc hb c_a_1
  have c_b_2' := zzc hb c_b_2
  have c_a_2' := zzc hb c_a_2
  have c_b_1' := zzc hb c_b_1
  show wpList _ _ _ _ _ _
  simp only [Grow.dstOf, zz1, zz2, zz3, zz4, Act.put, zz5, zz6, zz7]
  go_wp2
  exact ⟨rfl, Below.refl _ _, rfl⟩
 case o4g =>
  intro w' hb v1 hv1 v2 hv2
  obtain rfl : v1 = _ := hv1
  obtain rfl : v2 = _ := hv2
  show wpList _ _ _ _ _ _
  simp only [Grow.dstOf, zz1, zz2, zz3, zz4, Act.put, zz5, zz6, zz7]
  go_wp2
  exact ⟨rfl, Below.refl _ _, rfl⟩
 case o9g =>
  intro w' hb v1 hv1 v2 hv2
  obtain rfl : v1 = _ := hv1
  obtain rfl : v2 = _ := hv2
  show wpList _ _ _ _ _ _
  simp only [Grow.dstOf, zz1, zz2, zz3, zz4, Act.put, zz5, zz6, zz7]
  go_wp2_with fail
  refine (times_at n e _ _ w' (Ha.out.num.ext hb) (Hb.out.den.ext hb) (by omega) (by omega)).mono ?_
  rintro e wz ⟨vz, rfl, hvz, hbz⟩
  go_wp2
  exact ⟨hvz, hbz, rfl⟩
 case o14g =>
  intro w' hb v1 hv1 v2 hv2
  obtain rfl : v1 = _ := hv1
  obtain rfl : v2 = _ := hv2
  show wpList _ _ _ _ _ _
  simp only [Grow.dstOf, zz1, zz2, zz3, zz4, Act.put, zz5, zz6, zz7]
  go_wp2_with fail
  refine (times_at d m _ _ w' (Ha.out.den.ext hb) (Hb.out.num.ext hb) (by omega) (by omega)).mono ?_
  rintro e wz ⟨vz, rfl, hvz, hbz⟩
  go_wp2
  exact ⟨hvz, hbz, rfl⟩
 case o15g =>
  intro w' hb v1 hv1 v2 hv2 v3 hv3
  obtain rfl : v1 = _ := hv1
  have hn2 : N w' v2 (n * e) := hv2
  obtain ⟨ax2, cx2, rfl, _⟩ := hn2.open_
  have hn3 : N w' v3 (d * m) := hv3
  obtain ⟨ax3, cx3, rfl, _⟩ := hn3.open_
  show wpList _ _ _ _ _ _
  simp only [Grow.dstOf, zz1, zz2, zz3, zz4, Act.put, zz5, zz6, zz7]
  go_wp2
  exact ⟨⟨_, _, rfl, hn2, hn3⟩, Below.refl _ _, rfl⟩
 case o16g =>
  intro w' hb v1 hv1
  obtain ⟨x1, x2, rfl, hx1, hx2⟩ := hv1
  obtain ⟨t8, e8, hb8, hx8⟩ := fc_open (b := (t.b != s.b)) hx1 hx2
  rw [e8]
  show wpList _ _ _ _ _ _
  simp only [Grow.dstOf, zz1, zz2, zz3, zz4, Act.put, zz5, zz6, zz7]
  go_wp2_with fail
  refine (red_at t8 (n * e) (d * m) (by omega) (by omega) (by omega) w' hx8).mono ?_
  rintro e wz ⟨t9, n9, d9, rfl, hs9, hx9, hbz⟩
  go_wp2
  exact ⟨⟨t9, n9, d9, rfl, by rw [← hb8]; exact hs9, hx9⟩, hbz, rfl⟩
 intro w2' hbz u0 hu0 u1 hu1 u2 hu2 u3 hu3 u4 hu4 u5 hu5 u6 hu6 u7 hu7 u8 hu8 u9 hu9 u10 hu10 u11 hu11 u12 hu12 u13 hu13 u14 hu14 u15 hu15 u16 hu16
 clear hu0 hu1 hu2 hu3 hu4 hu5 hu6 hu7 hu8 hu9 hu10 hu11 hu12 hu13 hu14 hu15
 replace HR_a := Lib.hid (HR_a.out.ext hbz)
 replace HR_b := Lib.hid (HR_b.out.ext hbz)
 replace HR_o := Lib.hid (HR_o.out.ext hbz)
 replace Ha := Lib.hid (Ha.out.ext hbz)
 replace Hb := Lib.hid (Hb.out.ext hbz)
 replace HW := Lib.hid (ext_trans HW.out hbz)
 clear c_a_0 c_a_1 c_a_2 c_b_0 c_b_1 c_b_2
 clear hbz
 have h9 : ∃ (t9 : F3) (n9 d9 : Nat), u16 = f3V t9 ∧ Sim (t.b != s.b) (n * e) (d * m) t9.b n9 d9 ∧ FX w2' t9 n9 d9 := hu16
 clear hu16
 obtain ⟨t9, n9, d9, rfl, hs9, hx9⟩ := h9
 have HS9 := Lib.hid hs9
 clear hs9
 have HX9 : Hid (FX w2' t9 n9 d9) := Lib.hid (hx9)
 clear hx9
 show wpList _ _ _ _ _ _
 simp only [Act.put, zz5, zz6, zz7]
 obtain ⟨c_o_0, c_o_1, c_o_2⟩ := zs3 HR_o.out
 have f_o_0 := HR_o.out.fre 0
 have f_o_1 := HR_o.out.fre 1
 have f_o_2 := HR_o.out.fre 2
 go_wp2
 obtain ⟨w3', hX⟩ : ∃ Z9, Z9 = (((w2'.setCell ⟨(w.heap.size + 2), 0, none⟩ (.bool t9.b)).setCell ⟨(w.heap.size + 2), 1, none⟩ (.slice t9.a1 t9.n1 t9.c1)).setCell ⟨(w.heap.size + 2), 2, none⟩ (.slice t9.a2 t9.n2 t9.c2)) := ⟨_, rfl⟩
 rw [← hX]
 have n_o : Hid (RH w3' (w.heap.size + 2) #[.bool t9.b, .slice t9.a1 t9.n1 t9.c1, .slice t9.a2 t9.n2 t9.c2] 48) := by rw [hX]; exact Lib.hid ((((HR_o.out).set 0 (.bool t9.b)).set 1 (.slice t9.a1 t9.n1 t9.c1)).set 2 (.slice t9.a2 t9.n2 t9.c2))
 have n_a : Hid (RH w3' w.heap.size #[.bool t.b, .slice t.a1 t.n1 t.c1, .slice t.a2 t.n2 t.c2] 48) := by rw [hX]; exact Lib.hid (zzo (zzo (zzo (HR_a.out) (by omega)) (by omega)) (by omega))
 have n_b : Hid (RH w3' (w.heap.size + 1) #[.bool s.b, .slice s.a1 s.n1 s.c1, .slice s.a2 s.n2 s.c2] 48) := by rw [hX]; exact Lib.hid (zzo (zzo (zzo (HR_b.out) (by omega)) (by omega)) (by omega))
 have HK_ : ∀ p : Addr, p.block ≠ (w.heap.size + 2) → w3'.cell? p = w2'.cell? p := fun p hp => by rw [hX]; exact (cs_other' hp).trans ((cs_other' hp).trans (cs_other' hp))
 have n_Ha : Hid (FX w3' t n d) := Lib.hid (Ha.out.far HR_o.out.box (noI_all (by simp [isI])) HK_)
 have n_Hb : Hid (FX w3' s m e) := Lib.hid (Hb.out.far HR_o.out.box (noI_all (by simp [isI])) HK_)
 have n_HX9 : Hid (FX w3' t9 n9 d9) := Lib.hid (HX9.out.far HR_o.out.box (noI_all (by simp [isI])) HK_)
 have nW : Hid (Below w.heap.size w w3') := by rw [hX]; exact Lib.hid (zzw (zzw (zzw (HW.out) (by omega)) (by omega)) (by omega))
 clear c_o_0 c_o_1 c_o_2 f_o_0 f_o_1 f_o_2
 clear hX HK_ HW HR_a HR_b HR_o Ha Hb HX9
 have HR_a := n_a; clear n_a
 have HR_b := n_b; clear n_b
 have HR_o := n_o; clear n_o
 have Ha := n_Ha; clear n_Ha
 have Hb := n_Hb; clear n_Hb
 have HX9 := n_HX9; clear n_HX9
 have HW := nW; clear nW
 exact bodyPost_ret (v := .agg #[.bool t9.b, .slice t9.a1 t9.n1 t9.c1, .slice t9.a2 t9.n2 t9.c2]) (results_cell_row rfl _ _ _ _ _ _ _ rfl HR_o.out Tryz.underlying48 rfl (by kernel_rfl : (Tryz.prog.info? 48).map (·.size) = some 3)) rfl ⟨t9, n9, d9, rfl, HS9.out, HX9.out, HW.out⟩
set_option maxRecDepth 100000 in
set_option maxHeartbeats 16000000 in
theorem fplus_at (t s : F3) (n d m e : Nat) (hd : 0 < d) (he : 0 < e) (l1 : wlen n ≤ 10000000) (l2 : wlen d ≤ 10000000) (l3 : wlen m ≤ 10000000) (l4 : wlen e ≤ 10000000) (w : World) (hx : FX w t n d) (hy : FX w s m e) : Calls Tryz.prog 48 #[f3V t, f3V s] w (SimPost w (plB t.b s.b (n * e) (m * d)) (plN t.b s.b (n * e) (m * d)) (d * e)) := by
 have H0a := Lib.hid hx
 clear hx
 have H0b := Lib.hid hy
 clear hy
 go_enter Tryz.func48, Tryz.ntmps48
 go_upto_region 1 with (fail)
 refine wp_frs3 fun w1' hbz hR0 hR1 hR2 => ?_
 have HR_a : Hid (RH w1' w.heap.size #[.bool t.b, .slice t.a1 t.n1 t.c1, .slice t.a2 t.n2 t.c2] 48) := Lib.hid hR0
 have HR_b : Hid (RH w1' (w.heap.size + 1) #[.bool s.b, .slice s.a1 s.n1 s.c1, .slice s.a2 s.n2 s.c2] 48) := Lib.hid hR1
 have HR_o : Hid (RH w1' (w.heap.size + 2) #[.bool false, .slice none 0 0, .slice none 0 0] 48) := Lib.hid hR2
 have HW := Lib.hid hbz
 clear hbz hR0 hR1 hR2
 have Ha : Hid (FX w1' t n d) := Lib.hid (H0a.out.ext HW.out)
 have Hb : Hid (FX w1' s m e) := Lib.hid (H0b.out.ext HW.out)
 clear H0a H0b
 have w1 := wlen_mul n e
 have w2 := wlen_mul m d
 have w3 := wlen_mul d e
 have hde : 0 < d * e := Nat.mul_pos hd he
 obtain ⟨p, hp⟩ : ∃ z, n * e = z := ⟨_, rfl⟩
 obtain ⟨q, hq⟩ : ∃ z, m * d = z := ⟨_, rfl⟩
 obtain ⟨f, hf⟩ : ∃ z, d * e = z := ⟨_, rfl⟩
 have w4 := wlen_add p q
 have w5 := wlen_mono (Nat.sub_le p q)
 have w6 := wlen_mono (Nat.sub_le q p)
 rw [hp] at w1 ⊢
 rw [hq] at w2 ⊢
 rw [hf] at w3 hde ⊢
 have HP := Lib.hid (And.intro hp (And.intro hq hf))
 clear hp hq hf
 have l5 : wlen p ≤ 20000000 := by omega
 have l6 : wlen q ≤ 20000000 := by omega
 have l7 : wlen f ≤ 20000000 := by omega
 have l8 : wlen (p + q) ≤ 20000001 := by omega
 clear w1 w2 w3 w4
 obtain ⟨c_a_0, c_a_1, c_a_2⟩ := zs3 HR_a.out
 obtain ⟨c_b_0, c_b_1, c_b_2⟩ := zs3 HR_b.out
 refine Grow.wp_region_grow 10 [TP.eq (.pointer (some ⟨w.heap.size, 1, none⟩)), TP.eq (.slice t.a1 t.n1 t.c1), TP.eq (.pointer (some ⟨(w.heap.size + 1), 2, none⟩)), TP.eq (.slice s.a2 s.n2 s.c2), TP.nat (p), TP.eq (.pointer (some ⟨(w.heap.size + 1), 1, none⟩)), TP.eq (.slice s.a1 s.n1 s.c1), TP.eq (.pointer (some ⟨w.heap.size, 2, none⟩)), TP.eq (.slice t.a2 t.n2 t.c2), TP.nat (q)] [[], [0], [], [2], [1, 3], [], [5], [], [7], [6, 8]] (by kernel_rfl) (by kernel_rfl) ⟨?o0g, ?o1g, ?o2g, ?o3g, ?o4g, ?o5g, ?o6g, ?o7g, ?o8g, ?o9g, trivial⟩ ?_
 case o0g | o2g | o5g | o7g =>
  intro w' hb
  show wpList _ _ _ _ _ _
  go_wp2
  exact ⟨rfl, Below.refl _ _, rfl⟩
 case o1g =>
  intro w' hb v1 hv1
  obtain rfl : v1 = _ := hv1
  have c_a_1' := zzc hb c_a_1
  show wpList _ _ _ _ _ _
  simp only [Grow.dstOf, zz1, zz3, zz4, Act.put, zz5, zz6, zz7]
  go_wp2
  exact ⟨rfl, Below.refl _ _, rfl⟩
 case o3g | o6g | o8g =>
  intro w' hb v1 hv1
  obtain rfl : v1 = _ := hv1
  have c_b_2' := zzc hb c_b_2
  have c_b_1' := zzc hb c_b_1
  have c_a_2' := zzc hb c_a_2
  show wpList _ _ _ _ _ _
  simp only [Grow.dstOf, zz1, zz2, zz3, zz4, Act.put, zz5, zz6, zz7]
  go_wp2
  exact ⟨rfl, Below.refl _ _, rfl⟩
 case o4g =>
  intro w' hb v1 hv1 v2 hv2
  obtain rfl : v1 = _ := hv1
  obtain rfl : v2 = _ := hv2
  show wpList _ _ _ _ _ _
  simp only [Grow.dstOf, zz1, zz2, zz3, zz4, Act.put, zz5, zz6, zz7]
  go_wp2_with fail
  refine ((by have h := times_at n e _ _ w' (Ha.out.num.ext hb) (Hb.out.den.ext hb) (by omega) (by omega); rw [HP.out.1] at h; exact h : Calls _ _ _ w' (NPost w' p))).mono ?_
  rintro e wz ⟨vz, rfl, hvz, hbz⟩
  go_wp2
  exact ⟨hvz, hbz, rfl⟩
 case o9g =>
  intro w' hb v1 hv1 v2 hv2
  obtain rfl : v1 = _ := hv1
  obtain rfl : v2 = _ := hv2
  show wpList _ _ _ _ _ _
  simp only [Grow.dstOf, zz1, zz2, zz3, zz4, Act.put, zz5, zz6, zz7]
  go_wp2_with fail
  refine ((by have h := times_at m d _ _ w' (Hb.out.num.ext hb) (Ha.out.den.ext hb) (by omega) (by omega); rw [HP.out.2.1] at h; exact h : Calls _ _ _ w' (NPost w' q))).mono ?_
  rintro e wz ⟨vz, rfl, hvz, hbz⟩
  go_wp2
  exact ⟨hvz, hbz, rfl⟩
 intro w2' hbz u0 hu0 u1 hu1 u2 hu2 u3 hu3 u4 hu4 u5 hu5 u6 hu6 u7 hu7 u8 hu8 u9 hu9
 clear hu0 hu1 hu2 hu3 hu5 hu6 hu7 hu8
 replace HR_a := Lib.hid (HR_a.out.ext hbz)
 replace HR_b := Lib.hid (HR_b.out.ext hbz)
 replace HR_o := Lib.hid (HR_o.out.ext hbz)
 replace Ha := Lib.hid (Ha.out.ext hbz)
 replace Hb := Lib.hid (Hb.out.ext hbz)
 replace HW := Lib.hid (ext_trans HW.out hbz)
 clear c_a_0 c_a_1 c_a_2 c_b_0 c_b_1 c_b_2
 clear hbz
 have h9 : N w2' u4 p := hu4
 clear hu4
 obtain ⟨ap, cp, rfl, _⟩ := h9.open_
 have HNp : Hid (N w2' (.slice ap (digs p).length cp) p) := Lib.hid (h9)
 clear h9
 have h9 : N w2' u9 q := hu9
 clear hu9
 obtain ⟨aq, cq, rfl, _⟩ := h9.open_
 have HNq : Hid (N w2' (.slice aq (digs q).length cq) q) := Lib.hid (h9)
 clear h9
 show wpList _ _ _ _ _ _
 simp only [Act.put, zz5, zz6, zz7]
 obtain ⟨c_a_0, c_a_1, c_a_2⟩ := zs3 HR_a.out
 obtain ⟨c_b_0, c_b_1, c_b_2⟩ := zs3 HR_b.out
 go_wp2_with fail
 refine ((by have h := times_at d e _ _ w2' Ha.out.den Hb.out.den (by omega) (by omega); rw [HP.out.2.2] at h; exact h : Calls _ _ _ w2' (NPost w2' f))).mono ?_
 rintro e w3' ⟨vf, rfl, hvf, hbz⟩
 obtain ⟨af, cf, rfl, _⟩ := hvf.open_
 replace HR_a := Lib.hid (HR_a.out.ext hbz)
 replace HR_b := Lib.hid (HR_b.out.ext hbz)
 replace HR_o := Lib.hid (HR_o.out.ext hbz)
 replace Ha := Lib.hid (Ha.out.ext hbz)
 replace Hb := Lib.hid (Hb.out.ext hbz)
 replace HNp := Lib.hid (HNp.out.ext hbz)
 replace HNq := Lib.hid (HNq.out.ext hbz)
 replace HW := Lib.hid (ext_trans HW.out hbz)
 clear c_a_0 c_a_1 c_a_2 c_b_0 c_b_1 c_b_2
 clear hbz
 have HNf : Hid (N w3' (.slice af (digs f).length cf) f) := Lib.hid hvf
 clear hvf
 obtain ⟨c_a_0, -, -⟩ := zs3 HR_a.out
 obtain ⟨c_b_0, -, -⟩ := zs3 HR_b.out
 by_cases hs : t.b = s.b
 ·have hbe : (t.b == s.b) = true := by simp [hs]
  have HSE := Lib.hid hs
  clear hs
  go_upto_region 4 with (fail)
  have HV := Lib.hid (show plB t.b s.b p q = t.b ∧ plN t.b s.b p q = p + q from ⟨by unfold plB; rw [if_pos HSE.out], by unfold plN; rw [if_pos HSE.out]⟩)
  refine Grow.wp_region_grow 8 [TP.eq (.pointer (some ⟨w.heap.size, 0, none⟩)), TP.eq (.bool t.b), TP.eq (.slice ap (digs p).length cp), TP.eq (.slice aq (digs q).length cq), TP.nat (p + q), TP.eq (.slice af (digs f).length cf), TP.frac t.b (p + q) f, TP.sim (t.b) (p + q) (f)] [[], [0], [], [], [2, 3], [], [1, 4, 5], [6]] (by kernel_rfl) (by kernel_rfl) ⟨?o0h, ?o1h, ?o2h, ?o3h, ?o4h, ?o5h, ?o6h, ?o7h, trivial⟩ ?_
  case o0h | o2h | o3h | o5h =>
   intro w' hb
   show wpList _ _ _ _ _ _
   go_wp2
   exact ⟨rfl, Below.refl _ _, rfl⟩
  case o1h =>
   intro w' hb v1 hv1
   obtain rfl : v1 = _ := hv1
   have c_a_0' := zzc hb c_a_0
   show wpList _ _ _ _ _ _
   simp only [Grow.dstOf, zz1, zz3, zz4, Act.put, zz5, zz6, zz7]
   go_wp2
   exact ⟨rfl, Below.refl _ _, rfl⟩
  case o4h =>
   intro w' hb v1 hv1 v2 hv2
   obtain rfl : v1 = _ := hv1
   obtain rfl : v2 = _ := hv2
   show wpList _ _ _ _ _ _
   simp only [Grow.dstOf, zz1, zz2, zz3, zz4, Act.put, zz5, zz6, zz7]
   go_wp2_with fail
   refine (plus_at p q _ _ w' (HNp.out.ext hb) (HNq.out.ext hb) (by omega) (by omega)).mono ?_
   rintro e wz ⟨vz, rfl, hvz, hbz⟩
   go_wp2
   exact ⟨hvz, hbz, rfl⟩
  case o6h =>
   intro w' hb v1 hv1 v2 hv2 v3 hv3
   obtain rfl : v1 = _ := hv1
   obtain rfl : v3 = _ := hv3
   have hn2 : N w' v2 (p + q) := hv2
   obtain ⟨ax2, cx2, rfl, _⟩ := hn2.open_
   show wpList _ _ _ _ _ _
   simp only [Grow.dstOf, zz1, zz2, zz3, zz4, Act.put, zz5, zz6, zz7]
   go_wp2
   exact ⟨⟨_, _, rfl, hn2, HNf.out.ext hb⟩, Below.refl _ _, rfl⟩
  case o7h =>
   intro w' hb v1 hv1
   obtain ⟨x1, x2, rfl, hx1, hx2⟩ := hv1
   obtain ⟨t8, e8, hb8, hx8⟩ := fc_open (b := t.b) hx1 hx2
   rw [e8]
   show wpList _ _ _ _ _ _
   simp only [Grow.dstOf, zz1, zz2, zz3, zz4, Act.put, zz5, zz6, zz7]
   go_wp2_with fail
   refine (red_at t8 (p + q) (f) (by omega) (by omega) (by omega) w' hx8).mono ?_
   rintro e wz ⟨t9, n9, d9, rfl, hs9, hx9, hbz⟩
   go_wp2
   exact ⟨⟨t9, n9, d9, rfl, by rw [← hb8]; exact hs9, hx9⟩, hbz, rfl⟩
  intro w4' hbz u0 hu0 u1 hu1 u2 hu2 u3 hu3 u4 hu4 u5 hu5 u6 hu6 u7 hu7
  clear hu0 hu1 hu2 hu3 hu4 hu5 hu6
  replace HR_a := Lib.hid (HR_a.out.ext hbz)
  replace HR_b := Lib.hid (HR_b.out.ext hbz)
  replace HR_o := Lib.hid (HR_o.out.ext hbz)
  replace Ha := Lib.hid (Ha.out.ext hbz)
  replace Hb := Lib.hid (Hb.out.ext hbz)
  replace HNp := Lib.hid (HNp.out.ext hbz)
  replace HNq := Lib.hid (HNq.out.ext hbz)
  replace HNf := Lib.hid (HNf.out.ext hbz)
  replace HW := Lib.hid (ext_trans HW.out hbz)
  clear c_a_0 c_b_0
  clear hbz
  have h9 : ∃ (t9 : F3) (n9 d9 : Nat), u7 = f3V t9 ∧ Sim (t.b) (p + q) (f) t9.b n9 d9 ∧ FX w4' t9 n9 d9 := hu7
  clear hu7
  obtain ⟨t9, n9, d9, rfl, hs9, hx9⟩ := h9
  have HS9 := Lib.hid hs9
  clear hs9
  have HX9 : Hid (FX w4' t9 n9 d9) := Lib.hid (hx9)
  clear hx9
  show wpList _ _ _ _ _ _
  simp only [Act.put, zz5, zz6, zz7]
  obtain ⟨c_o_0, c_o_1, c_o_2⟩ := zs3 HR_o.out
  have f_o_0 := HR_o.out.fre 0
  have f_o_1 := HR_o.out.fre 1
  have f_o_2 := HR_o.out.fre 2
  go_wp2
  obtain ⟨w5', hX⟩ : ∃ Z9, Z9 = (((w4'.setCell ⟨(w.heap.size + 2), 0, none⟩ (.bool t9.b)).setCell ⟨(w.heap.size + 2), 1, none⟩ (.slice t9.a1 t9.n1 t9.c1)).setCell ⟨(w.heap.size + 2), 2, none⟩ (.slice t9.a2 t9.n2 t9.c2)) := ⟨_, rfl⟩
  rw [← hX]
  have n_o : Hid (RH w5' (w.heap.size + 2) #[.bool t9.b, .slice t9.a1 t9.n1 t9.c1, .slice t9.a2 t9.n2 t9.c2] 48) := by rw [hX]; exact Lib.hid ((((HR_o.out).set 0 (.bool t9.b)).set 1 (.slice t9.a1 t9.n1 t9.c1)).set 2 (.slice t9.a2 t9.n2 t9.c2))
  have n_a : Hid (RH w5' w.heap.size #[.bool t.b, .slice t.a1 t.n1 t.c1, .slice t.a2 t.n2 t.c2] 48) := by rw [hX]; exact Lib.hid (zzo (zzo (zzo (HR_a.out) (by omega)) (by omega)) (by omega))
  have n_b : Hid (RH w5' (w.heap.size + 1) #[.bool s.b, .slice s.a1 s.n1 s.c1, .slice s.a2 s.n2 s.c2] 48) := by rw [hX]; exact Lib.hid (zzo (zzo (zzo (HR_b.out) (by omega)) (by omega)) (by omega))
  have HK_ : ∀ p : Addr, p.block ≠ (w.heap.size + 2) → w5'.cell? p = w4'.cell? p := fun p hp => by rw [hX]; exact (cs_other' hp).trans ((cs_other' hp).trans (cs_other' hp))
  have n_Ha : Hid (FX w5' t n d) := Lib.hid (Ha.out.far HR_o.out.box (noI_all (by simp [isI])) HK_)
  have n_Hb : Hid (FX w5' s m e) := Lib.hid (Hb.out.far HR_o.out.box (noI_all (by simp [isI])) HK_)
  have n_HNp : Hid (N w5' (.slice ap (digs p).length cp) p) := Lib.hid (HNp.out.far HR_o.out.box (noI_all (by simp [isI])) HK_)
  have n_HNq : Hid (N w5' (.slice aq (digs q).length cq) q) := Lib.hid (HNq.out.far HR_o.out.box (noI_all (by simp [isI])) HK_)
  have n_HNf : Hid (N w5' (.slice af (digs f).length cf) f) := Lib.hid (HNf.out.far HR_o.out.box (noI_all (by simp [isI])) HK_)
  have n_HX9 : Hid (FX w5' t9 n9 d9) := Lib.hid (HX9.out.far HR_o.out.box (noI_all (by simp [isI])) HK_)
  have nW : Hid (Below w.heap.size w w5') := by rw [hX]; exact Lib.hid (zzw (zzw (zzw (HW.out) (by omega)) (by omega)) (by omega))
  clear c_o_0 c_o_1 c_o_2 f_o_0 f_o_1 f_o_2
  clear hX HK_ HW HR_a HR_b HR_o Ha Hb HNp HNq HNf HX9
  have HR_a := n_a; clear n_a
  have HR_b := n_b; clear n_b
  have HR_o := n_o; clear n_o
  have Ha := n_Ha; clear n_Ha
  have Hb := n_Hb; clear n_Hb
  have HNp := n_HNp; clear n_HNp
  have HNq := n_HNq; clear n_HNq
  have HNf := n_HNf; clear n_HNf
  have HX9 := n_HX9; clear n_HX9
  have HW := nW; clear nW
  exact bodyPost_ret (v := .agg #[.bool t9.b, .slice t9.a1 t9.n1 t9.c1, .slice t9.a2 t9.n2 t9.c2]) (results_cell_row rfl _ _ _ _ _ _ _ rfl HR_o.out Tryz.underlying48 rfl (by kernel_rfl : (Tryz.prog.info? 48).map (·.size) = some 3)) rfl ⟨t9, n9, d9, rfl, (by first | (rw [HV.out.1, HV.out.2]; exact HS9.out) | (rw [HP.out.1, HP.out.2.1, HP.out.2.2, HV.out.1, HV.out.2]; exact HS9.out)), HX9.out, HW.out⟩
 ·have hbe : (t.b == s.b) = false := by simpa using hs
  go_wp2_with fail
  refine (nord_at p q _ _ w3' HNp.out HNq.out).mono ?_
  rintro e w4' ⟨rfl, hbz⟩
  replace HR_a := Lib.hid (HR_a.out.ext hbz)
  replace HR_b := Lib.hid (HR_b.out.ext hbz)
  replace HR_o := Lib.hid (HR_o.out.ext hbz)
  replace Ha := Lib.hid (Ha.out.ext hbz)
  replace Hb := Lib.hid (Hb.out.ext hbz)
  replace HNp := Lib.hid (HNp.out.ext hbz)
  replace HNq := Lib.hid (HNq.out.ext hbz)
  replace HNf := Lib.hid (HNf.out.ext hbz)
  replace HW := Lib.hid (ext_trans HW.out hbz)
  clear c_a_0 c_b_0
  clear hbz
  by_cases hq : q ≤ p
  ·have hge : (0 : Int) ≤ cmpN p q := cmpN_ge'.2 hq
   go_upto_region 6 with (fail)
   obtain ⟨c_a_0, -, -⟩ := zs3 HR_a.out
   have HV := Lib.hid (show plB t.b s.b p q = t.b ∧ plN t.b s.b p q = p - q from ⟨by unfold plB; rw [if_neg hs, if_pos hq], by unfold plN; rw [if_neg hs, if_pos hq]⟩)
   refine Grow.wp_region_grow 8 [TP.eq (.pointer (some ⟨w.heap.size, 0, none⟩)), TP.eq (.bool t.b), TP.eq (.slice ap (digs p).length cp), TP.eq (.slice aq (digs q).length cq), TP.nat (p - q), TP.eq (.slice af (digs f).length cf), TP.frac t.b (p - q) f, TP.sim (t.b) (p - q) (f)] [[], [0], [], [], [2, 3], [], [1, 4, 5], [6]] (by kernel_rfl) (by kernel_rfl) ⟨?o0h, ?o1h, ?o2h, ?o3h, ?o4h, ?o5h, ?o6h, ?o7h, trivial⟩ ?_
   case o0h | o2h | o3h | o5h =>
    intro w' hb
    show wpList _ _ _ _ _ _
    go_wp2
    exact ⟨rfl, Below.refl _ _, rfl⟩
   case o1h =>
    intro w' hb v1 hv1
    obtain rfl : v1 = _ := hv1
    have c_a_0' := zzc hb c_a_0
    show wpList _ _ _ _ _ _
    simp only [Grow.dstOf, zz1, zz3, zz4, Act.put, zz5, zz6, zz7]
    go_wp2
    exact ⟨rfl, Below.refl _ _, rfl⟩
   case o4h =>
    intro w' hb v1 hv1 v2 hv2
    obtain rfl : v1 = _ := hv1
    obtain rfl : v2 = _ := hv2
    show wpList _ _ _ _ _ _
    simp only [Grow.dstOf, zz1, zz2, zz3, zz4, Act.put, zz5, zz6, zz7]
    go_wp2_with fail
    refine (minus_at p q _ _ w' (HNp.out.ext hb) (HNq.out.ext hb) hq (by omega)).mono ?_
    rintro e wz ⟨vz, rfl, hvz, hbz⟩
    go_wp2
    exact ⟨hvz, hbz, rfl⟩
   case o6h =>
    intro w' hb v1 hv1 v2 hv2 v3 hv3
    obtain rfl : v1 = _ := hv1
    obtain rfl : v3 = _ := hv3
    have hn2 : N w' v2 (p - q) := hv2
    obtain ⟨ax2, cx2, rfl, _⟩ := hn2.open_
    show wpList _ _ _ _ _ _
    simp only [Grow.dstOf, zz1, zz2, zz3, zz4, Act.put, zz5, zz6, zz7]
    go_wp2
    exact ⟨⟨_, _, rfl, hn2, HNf.out.ext hb⟩, Below.refl _ _, rfl⟩
   case o7h =>
    intro w' hb v1 hv1
    obtain ⟨x1, x2, rfl, hx1, hx2⟩ := hv1
    obtain ⟨t8, e8, hb8, hx8⟩ := fc_open (b := t.b) hx1 hx2
    rw [e8]
    show wpList _ _ _ _ _ _
    simp only [Grow.dstOf, zz1, zz2, zz3, zz4, Act.put, zz5, zz6, zz7]
    go_wp2_with fail
    refine (red_at t8 (p - q) (f) (by omega) (by omega) (by omega) w' hx8).mono ?_
    rintro e wz ⟨t9, n9, d9, rfl, hs9, hx9, hbz⟩
    go_wp2
    exact ⟨⟨t9, n9, d9, rfl, by rw [← hb8]; exact hs9, hx9⟩, hbz, rfl⟩
   intro w5' hbz u0 hu0 u1 hu1 u2 hu2 u3 hu3 u4 hu4 u5 hu5 u6 hu6 u7 hu7
   clear hu0 hu1 hu2 hu3 hu4 hu5 hu6
   replace HR_a := Lib.hid (HR_a.out.ext hbz)
   replace HR_b := Lib.hid (HR_b.out.ext hbz)
   replace HR_o := Lib.hid (HR_o.out.ext hbz)
   replace Ha := Lib.hid (Ha.out.ext hbz)
   replace Hb := Lib.hid (Hb.out.ext hbz)
   replace HNp := Lib.hid (HNp.out.ext hbz)
   replace HNq := Lib.hid (HNq.out.ext hbz)
   replace HNf := Lib.hid (HNf.out.ext hbz)
   replace HW := Lib.hid (ext_trans HW.out hbz)
   clear c_a_0
   clear hbz
   have h9 : ∃ (t9 : F3) (n9 d9 : Nat), u7 = f3V t9 ∧ Sim (t.b) (p - q) (f) t9.b n9 d9 ∧ FX w5' t9 n9 d9 := hu7
   clear hu7
   obtain ⟨t9, n9, d9, rfl, hs9, hx9⟩ := h9
   have HS9 := Lib.hid hs9
   clear hs9
   have HX9 : Hid (FX w5' t9 n9 d9) := Lib.hid (hx9)
   clear hx9
   show wpList _ _ _ _ _ _
   simp only [Act.put, zz5, zz6, zz7]
   obtain ⟨c_o_0, c_o_1, c_o_2⟩ := zs3 HR_o.out
   have f_o_0 := HR_o.out.fre 0
   have f_o_1 := HR_o.out.fre 1
   have f_o_2 := HR_o.out.fre 2
   go_wp2
   obtain ⟨w6', hX⟩ : ∃ Z9, Z9 = (((w5'.setCell ⟨(w.heap.size + 2), 0, none⟩ (.bool t9.b)).setCell ⟨(w.heap.size + 2), 1, none⟩ (.slice t9.a1 t9.n1 t9.c1)).setCell ⟨(w.heap.size + 2), 2, none⟩ (.slice t9.a2 t9.n2 t9.c2)) := ⟨_, rfl⟩
   rw [← hX]
   have n_o : Hid (RH w6' (w.heap.size + 2) #[.bool t9.b, .slice t9.a1 t9.n1 t9.c1, .slice t9.a2 t9.n2 t9.c2] 48) := by rw [hX]; exact Lib.hid ((((HR_o.out).set 0 (.bool t9.b)).set 1 (.slice t9.a1 t9.n1 t9.c1)).set 2 (.slice t9.a2 t9.n2 t9.c2))
   have n_a : Hid (RH w6' w.heap.size #[.bool t.b, .slice t.a1 t.n1 t.c1, .slice t.a2 t.n2 t.c2] 48) := by rw [hX]; exact Lib.hid (zzo (zzo (zzo (HR_a.out) (by omega)) (by omega)) (by omega))
   have n_b : Hid (RH w6' (w.heap.size + 1) #[.bool s.b, .slice s.a1 s.n1 s.c1, .slice s.a2 s.n2 s.c2] 48) := by rw [hX]; exact Lib.hid (zzo (zzo (zzo (HR_b.out) (by omega)) (by omega)) (by omega))
   have HK_ : ∀ p : Addr, p.block ≠ (w.heap.size + 2) → w6'.cell? p = w5'.cell? p := fun p hp => by rw [hX]; exact (cs_other' hp).trans ((cs_other' hp).trans (cs_other' hp))
   have n_Ha : Hid (FX w6' t n d) := Lib.hid (Ha.out.far HR_o.out.box (noI_all (by simp [isI])) HK_)
   have n_Hb : Hid (FX w6' s m e) := Lib.hid (Hb.out.far HR_o.out.box (noI_all (by simp [isI])) HK_)
   have n_HNp : Hid (N w6' (.slice ap (digs p).length cp) p) := Lib.hid (HNp.out.far HR_o.out.box (noI_all (by simp [isI])) HK_)
   have n_HNq : Hid (N w6' (.slice aq (digs q).length cq) q) := Lib.hid (HNq.out.far HR_o.out.box (noI_all (by simp [isI])) HK_)
   have n_HNf : Hid (N w6' (.slice af (digs f).length cf) f) := Lib.hid (HNf.out.far HR_o.out.box (noI_all (by simp [isI])) HK_)
   have n_HX9 : Hid (FX w6' t9 n9 d9) := Lib.hid (HX9.out.far HR_o.out.box (noI_all (by simp [isI])) HK_)
   have nW : Hid (Below w.heap.size w w6') := by rw [hX]; exact Lib.hid (zzw (zzw (zzw (HW.out) (by omega)) (by omega)) (by omega))
   clear c_o_0 c_o_1 c_o_2 f_o_0 f_o_1 f_o_2
   clear hX HK_ HW HR_a HR_b HR_o Ha Hb HNp HNq HNf HX9
   have HR_a := n_a; clear n_a
   have HR_b := n_b; clear n_b
   have HR_o := n_o; clear n_o
   have Ha := n_Ha; clear n_Ha
   have Hb := n_Hb; clear n_Hb
   have HNp := n_HNp; clear n_HNp
   have HNq := n_HNq; clear n_HNq
   have HNf := n_HNf; clear n_HNf
   have HX9 := n_HX9; clear n_HX9
   have HW := nW; clear nW
   exact bodyPost_ret (v := .agg #[.bool t9.b, .slice t9.a1 t9.n1 t9.c1, .slice t9.a2 t9.n2 t9.c2]) (results_cell_row rfl _ _ _ _ _ _ _ rfl HR_o.out Tryz.underlying48 rfl (by kernel_rfl : (Tryz.prog.info? 48).map (·.size) = some 3)) rfl ⟨t9, n9, d9, rfl, (by first | (rw [HV.out.1, HV.out.2]; exact HS9.out) | (rw [HP.out.1, HP.out.2.1, HP.out.2.2, HV.out.1, HV.out.2]; exact HS9.out)), HX9.out, HW.out⟩
  ·have hge : ¬ (0 : Int) ≤ cmpN p q := fun h => hq (cmpN_ge'.1 h)
   go_upto_region 7 with (fail)
   obtain ⟨c_b_0, -, -⟩ := zs3 HR_b.out
   have HV := Lib.hid (show plB t.b s.b p q = s.b ∧ plN t.b s.b p q = q - p from ⟨by unfold plB; rw [if_neg hs, if_neg hq], by unfold plN; rw [if_neg hs, if_neg hq]⟩)
   refine Grow.wp_region_grow 8 [TP.eq (.pointer (some ⟨(w.heap.size + 1), 0, none⟩)), TP.eq (.bool s.b), TP.eq (.slice aq (digs q).length cq), TP.eq (.slice ap (digs p).length cp), TP.nat (q - p), TP.eq (.slice af (digs f).length cf), TP.frac s.b (q - p) f, TP.sim (s.b) (q - p) (f)] [[], [0], [], [], [2, 3], [], [1, 4, 5], [6]] (by kernel_rfl) (by kernel_rfl) ⟨?o0h, ?o1h, ?o2h, ?o3h, ?o4h, ?o5h, ?o6h, ?o7h, trivial⟩ ?_
   case o0h | o2h | o3h | o5h =>
    intro w' hb
    show wpList _ _ _ _ _ _
    go_wp2
    exact ⟨rfl, Below.refl _ _, rfl⟩
   case o1h =>
    intro w' hb v1 hv1
    obtain rfl : v1 = _ := hv1
    have c_b_0' := zzc hb c_b_0
    show wpList _ _ _ _ _ _
    simp only [Grow.dstOf, zz1, zz3, zz4, Act.put, zz5, zz6, zz7]
    go_wp2
    exact ⟨rfl, Below.refl _ _, rfl⟩
   case o4h =>
    intro w' hb v1 hv1 v2 hv2
    obtain rfl : v1 = _ := hv1
    obtain rfl : v2 = _ := hv2
    show wpList _ _ _ _ _ _
    simp only [Grow.dstOf, zz1, zz2, zz3, zz4, Act.put, zz5, zz6, zz7]
    go_wp2_with fail
    refine (minus_at q p _ _ w' (HNq.out.ext hb) (HNp.out.ext hb) (by omega) (by omega)).mono ?_
    rintro e wz ⟨vz, rfl, hvz, hbz⟩
    go_wp2
    exact ⟨hvz, hbz, rfl⟩
   case o6h =>
    intro w' hb v1 hv1 v2 hv2 v3 hv3
    obtain rfl : v1 = _ := hv1
    obtain rfl : v3 = _ := hv3
    have hn2 : N w' v2 (q - p) := hv2
    obtain ⟨ax2, cx2, rfl, _⟩ := hn2.open_
    show wpList _ _ _ _ _ _
    simp only [Grow.dstOf, zz1, zz2, zz3, zz4, Act.put, zz5, zz6, zz7]
    go_wp2
    exact ⟨⟨_, _, rfl, hn2, HNf.out.ext hb⟩, Below.refl _ _, rfl⟩
   case o7h =>
    intro w' hb v1 hv1
    obtain ⟨x1, x2, rfl, hx1, hx2⟩ := hv1
    obtain ⟨t8, e8, hb8, hx8⟩ := fc_open (b := s.b) hx1 hx2
    rw [e8]
    show wpList _ _ _ _ _ _
    simp only [Grow.dstOf, zz1, zz2, zz3, zz4, Act.put, zz5, zz6, zz7]
    go_wp2_with fail
    refine (red_at t8 (q - p) (f) (by omega) (by omega) (by omega) w' hx8).mono ?_
    rintro e wz ⟨t9, n9, d9, rfl, hs9, hx9, hbz⟩
    go_wp2
    exact ⟨⟨t9, n9, d9, rfl, by rw [← hb8]; exact hs9, hx9⟩, hbz, rfl⟩
   intro w5' hbz u0 hu0 u1 hu1 u2 hu2 u3 hu3 u4 hu4 u5 hu5 u6 hu6 u7 hu7
   clear hu0 hu1 hu2 hu3 hu4 hu5 hu6
   replace HR_a := Lib.hid (HR_a.out.ext hbz)
   replace HR_b := Lib.hid (HR_b.out.ext hbz)
   replace HR_o := Lib.hid (HR_o.out.ext hbz)
   replace Ha := Lib.hid (Ha.out.ext hbz)
   replace Hb := Lib.hid (Hb.out.ext hbz)
   replace HNp := Lib.hid (HNp.out.ext hbz)
   replace HNq := Lib.hid (HNq.out.ext hbz)
   replace HNf := Lib.hid (HNf.out.ext hbz)
   replace HW := Lib.hid (ext_trans HW.out hbz)
   clear c_b_0
   clear hbz
   have h9 : ∃ (t9 : F3) (n9 d9 : Nat), u7 = f3V t9 ∧ Sim (s.b) (q - p) (f) t9.b n9 d9 ∧ FX w5' t9 n9 d9 := hu7
   clear hu7
   obtain ⟨t9, n9, d9, rfl, hs9, hx9⟩ := h9
   have HS9 := Lib.hid hs9
   clear hs9
   have HX9 : Hid (FX w5' t9 n9 d9) := Lib.hid (hx9)
   clear hx9
   show wpList _ _ _ _ _ _
   simp only [Act.put, zz5, zz6, zz7]
   obtain ⟨c_o_0, c_o_1, c_o_2⟩ := zs3 HR_o.out
   have f_o_0 := HR_o.out.fre 0
   have f_o_1 := HR_o.out.fre 1
   have f_o_2 := HR_o.out.fre 2
   go_wp2
   obtain ⟨w6', hX⟩ : ∃ Z9, Z9 = (((w5'.setCell ⟨(w.heap.size + 2), 0, none⟩ (.bool t9.b)).setCell ⟨(w.heap.size + 2), 1, none⟩ (.slice t9.a1 t9.n1 t9.c1)).setCell ⟨(w.heap.size + 2), 2, none⟩ (.slice t9.a2 t9.n2 t9.c2)) := ⟨_, rfl⟩
   rw [← hX]
   have n_o : Hid (RH w6' (w.heap.size + 2) #[.bool t9.b, .slice t9.a1 t9.n1 t9.c1, .slice t9.a2 t9.n2 t9.c2] 48) := by rw [hX]; exact Lib.hid ((((HR_o.out).set 0 (.bool t9.b)).set 1 (.slice t9.a1 t9.n1 t9.c1)).set 2 (.slice t9.a2 t9.n2 t9.c2))
   have n_a : Hid (RH w6' w.heap.size #[.bool t.b, .slice t.a1 t.n1 t.c1, .slice t.a2 t.n2 t.c2] 48) := by rw [hX]; exact Lib.hid (zzo (zzo (zzo (HR_a.out) (by omega)) (by omega)) (by omega))
   have n_b : Hid (RH w6' (w.heap.size + 1) #[.bool s.b, .slice s.a1 s.n1 s.c1, .slice s.a2 s.n2 s.c2] 48) := by rw [hX]; exact Lib.hid (zzo (zzo (zzo (HR_b.out) (by omega)) (by omega)) (by omega))
   have HK_ : ∀ p : Addr, p.block ≠ (w.heap.size + 2) → w6'.cell? p = w5'.cell? p := fun p hp => by rw [hX]; exact (cs_other' hp).trans ((cs_other' hp).trans (cs_other' hp))
   have n_Ha : Hid (FX w6' t n d) := Lib.hid (Ha.out.far HR_o.out.box (noI_all (by simp [isI])) HK_)
   have n_Hb : Hid (FX w6' s m e) := Lib.hid (Hb.out.far HR_o.out.box (noI_all (by simp [isI])) HK_)
   have n_HNp : Hid (N w6' (.slice ap (digs p).length cp) p) := Lib.hid (HNp.out.far HR_o.out.box (noI_all (by simp [isI])) HK_)
   have n_HNq : Hid (N w6' (.slice aq (digs q).length cq) q) := Lib.hid (HNq.out.far HR_o.out.box (noI_all (by simp [isI])) HK_)
   have n_HNf : Hid (N w6' (.slice af (digs f).length cf) f) := Lib.hid (HNf.out.far HR_o.out.box (noI_all (by simp [isI])) HK_)
   have n_HX9 : Hid (FX w6' t9 n9 d9) := Lib.hid (HX9.out.far HR_o.out.box (noI_all (by simp [isI])) HK_)
   have nW : Hid (Below w.heap.size w w6') := by rw [hX]; exact Lib.hid (zzw (zzw (zzw (HW.out) (by omega)) (by omega)) (by omega))
   clear c_o_0 c_o_1 c_o_2 f_o_0 f_o_1 f_o_2
   clear hX HK_ HW HR_a HR_b HR_o Ha Hb HNp HNq HNf HX9
   have HR_a := n_a; clear n_a
   have HR_b := n_b; clear n_b
   have HR_o := n_o; clear n_o
   have Ha := n_Ha; clear n_Ha
   have Hb := n_Hb; clear n_Hb
   have HNp := n_HNp; clear n_HNp
   have HNq := n_HNq; clear n_HNq
   have HNf := n_HNf; clear n_HNf
   have HX9 := n_HX9; clear n_HX9
   have HW := nW; clear nW
   exact bodyPost_ret (v := .agg #[.bool t9.b, .slice t9.a1 t9.n1 t9.c1, .slice t9.a2 t9.n2 t9.c2]) (results_cell_row rfl _ _ _ _ _ _ _ rfl HR_o.out Tryz.underlying48 rfl (by kernel_rfl : (Tryz.prog.info? 48).map (·.size) = some 3)) rfl ⟨t9, n9, d9, rfl, (by first | (rw [HV.out.1, HV.out.2]; exact HS9.out) | (rw [HP.out.1, HP.out.2.1, HP.out.2.2, HV.out.1, HV.out.2]; exact HS9.out)), HX9.out, HW.out⟩
set_option maxRecDepth 100000 in
set_option maxHeartbeats 16000000 in
theorem fopp_at (t : F3) (n d : Nat) (w : World) (hx : FX w t n d) : Calls Tryz.prog 68 #[f3V t] w (FcPost w (!t.b) n d) := by
 have H0a := Lib.hid hx
 clear hx
 go_enter Tryz.func68, Tryz.ntmps68
 go_upto_region 1 with (fail)
 refine wp_frs2 fun w1' hbz hR0 hR1 => ?_
 have HR_a : Hid (RH w1' w.heap.size #[.bool t.b, .slice t.a1 t.n1 t.c1, .slice t.a2 t.n2 t.c2] 48) := Lib.hid hR0
 have HR_o : Hid (RH w1' (w.heap.size + 1) #[.bool false, .slice none 0 0, .slice none 0 0] 48) := Lib.hid hR1
 have HW := Lib.hid hbz
 clear hbz hR0 hR1
 have Ha : Hid (FX w1' t n d) := Lib.hid (H0a.out.ext HW.out)
 clear H0a
 obtain ⟨c_a_0, c_a_1, c_a_2⟩ := zs3 HR_a.out
 obtain ⟨c_o_0, c_o_1, c_o_2⟩ := zs3 HR_o.out
 have f_o_0 := HR_o.out.fre 0
 have f_o_1 := HR_o.out.fre 1
 have f_o_2 := HR_o.out.fre 2
 go_wp2
 obtain ⟨w2', hX⟩ : ∃ Z9, Z9 = (((w1'.setCell ⟨(w.heap.size + 1), 0, none⟩ (.bool (!t.b))).setCell ⟨(w.heap.size + 1), 1, none⟩ (.slice t.a1 t.n1 t.c1)).setCell ⟨(w.heap.size + 1), 2, none⟩ (.slice t.a2 t.n2 t.c2)) := ⟨_, rfl⟩
 rw [← hX]
 have n_o : Hid (RH w2' (w.heap.size + 1) #[.bool (!t.b), .slice t.a1 t.n1 t.c1, .slice t.a2 t.n2 t.c2] 48) := by rw [hX]; exact Lib.hid ((((HR_o.out).set 0 (.bool (!t.b))).set 1 (.slice t.a1 t.n1 t.c1)).set 2 (.slice t.a2 t.n2 t.c2))
 have n_a : Hid (RH w2' w.heap.size #[.bool t.b, .slice t.a1 t.n1 t.c1, .slice t.a2 t.n2 t.c2] 48) := by rw [hX]; exact Lib.hid (zzo (zzo (zzo (HR_a.out) (by omega)) (by omega)) (by omega))
 have HK_ : ∀ p : Addr, p.block ≠ (w.heap.size + 1) → w2'.cell? p = w1'.cell? p := fun p hp => by rw [hX]; exact (cs_other' hp).trans ((cs_other' hp).trans (cs_other' hp))
 have n_Ha : Hid (FX w2' t n d) := Lib.hid (Ha.out.far HR_o.out.box (noI_all (by simp [isI])) HK_)
 have nW : Hid (Below w.heap.size w w2') := by rw [hX]; exact Lib.hid (zzw (zzw (zzw (HW.out) (by omega)) (by omega)) (by omega))
 clear c_a_0 c_a_1 c_a_2 c_o_0 c_o_1 c_o_2 f_o_0 f_o_1 f_o_2
 clear hX HK_ HW HR_a HR_o Ha
 have HR_a := n_a; clear n_a
 have HR_o := n_o; clear n_o
 have Ha := n_Ha; clear n_Ha
 have HW := nW; clear nW
 exact bodyPost_ret (v := .agg #[.bool (!t.b), .slice t.a1 t.n1 t.c1, .slice t.a2 t.n2 t.c2]) (results_cell_row rfl _ _ _ _ _ _ _ rfl HR_o.out Tryz.underlying48 rfl (by kernel_rfl : (Tryz.prog.info? 48).map (·.size) = some 3)) rfl ⟨⟨!t.b, t.a1, t.n1, t.c1, t.a2, t.n2, t.c2⟩, rfl, rfl, ⟨Ha.out.num, Ha.out.den⟩, HW.out⟩
set_option maxRecDepth 100000 in
set_option maxHeartbeats 16000000 in
theorem fminus_at (t s : F3) (n d m e : Nat) (hd : 0 < d) (he : 0 < e) (l1 : wlen n ≤ 10000000) (l2 : wlen d ≤ 10000000) (l3 : wlen m ≤ 10000000) (l4 : wlen e ≤ 10000000) (w : World) (hx : FX w t n d) (hy : FX w s m e) : Calls Tryz.prog 31 #[f3V t, f3V s] w (SimPost w (plB t.b (!s.b) (n * e) (m * d)) (plN t.b (!s.b) (n * e) (m * d)) (d * e)) := by
 have H0a := Lib.hid hx
 clear hx
 have H0b := Lib.hid hy
 clear hy
 go_enter Tryz.func31, Tryz.ntmps31
 go_upto_region 1 with (fail)
 refine wp_frs3 fun w1' hbz hR0 hR1 hR2 => ?_
 have HR_a : Hid (RH w1' w.heap.size #[.bool t.b, .slice t.a1 t.n1 t.c1, .slice t.a2 t.n2 t.c2] 48) := Lib.hid hR0
 have HR_b : Hid (RH w1' (w.heap.size + 1) #[.bool s.b, .slice s.a1 s.n1 s.c1, .slice s.a2 s.n2 s.c2] 48) := Lib.hid hR1
 have HR_o : Hid (RH w1' (w.heap.size + 2) #[.bool false, .slice none 0 0, .slice none 0 0] 48) := Lib.hid hR2
 have HW := Lib.hid hbz
 clear hbz hR0 hR1 hR2
 have Ha : Hid (FX w1' t n d) := Lib.hid (H0a.out.ext HW.out)
 have Hb : Hid (FX w1' s m e) := Lib.hid (H0b.out.ext HW.out)
 clear H0a H0b
 obtain ⟨c_a_0, c_a_1, c_a_2⟩ := zs3 HR_a.out
 obtain ⟨c_b_0, c_b_1, c_b_2⟩ := zs3 HR_b.out
 refine Grow.wp_region_grow 4 [TP.eq (f3V t), TP.eq (f3V s), TP.fc (!s.b) m e, TP.sim (plB t.b (!s.b) (n * e) (m * d)) (plN t.b (!s.b) (n * e) (m * d)) (d * e)] [[], [], [1], [0, 2]] (by kernel_rfl) (by kernel_rfl) ⟨?o0g, ?o1g, ?o2g, ?o3g, trivial⟩ ?_
 case o0g | o1g =>
  intro w' hb
  have c_a_0' := zzc hb c_a_0
  have c_a_1' := zzc hb c_a_1
  have c_a_2' := zzc hb c_a_2
  have c_b_0' := zzc hb c_b_0
  have c_b_1' := zzc hb c_b_1
  have c_b_2' := zzc hb c_b_2
  show wpList _ _ _ _ _ _
  go_wp2
  exact ⟨rfl, Below.refl _ _, rfl⟩
 case o2g =>
  intro w' hb v1 hv1
  obtain rfl : v1 = _ := hv1
  show wpList _ _ _ _ _ _
  simp only [Grow.dstOf, zz1, zz2, zz3, zz4, Act.put, zz5, zz6, zz7]
  go_wp2_with fail
  refine (fopp_at s m e w' (Hb.out.ext hb)).mono ?_
  rintro e wz ⟨t9, rfl, hb9, hx9, hbz⟩
  go_wp2
  exact ⟨⟨t9, rfl, hb9, hx9⟩, hbz, rfl⟩
 case o3g =>
  intro w' hb v1 hv1 v2 hv2
  obtain rfl : v1 = _ := hv1
  obtain ⟨t8, rfl, hb8, hx8⟩ := hv2
  rw [← hb8]
  show wpList _ _ _ _ _ _
  simp only [Grow.dstOf, zz1, zz2, zz3, zz4, Act.put, zz5, zz6, zz7]
  go_wp2_with fail
  refine (fplus_at t t8 n d m e hd he l1 l2 l3 l4 w' (Ha.out.ext hb) hx8).mono ?_
  rintro e wz ⟨t9, n9, d9, rfl, hs9, hx9, hbz⟩
  go_wp2
  exact ⟨⟨t9, n9, d9, rfl, hs9, hx9⟩, hbz, rfl⟩
 intro w2' hbz u0 hu0 u1 hu1 u2 hu2 u3 hu3
 clear hu0 hu1 hu2
 replace HR_a := Lib.hid (HR_a.out.ext hbz)
 replace HR_b := Lib.hid (HR_b.out.ext hbz)
 replace HR_o := Lib.hid (HR_o.out.ext hbz)
 replace Ha := Lib.hid (Ha.out.ext hbz)
 replace Hb := Lib.hid (Hb.out.ext hbz)
 replace HW := Lib.hid (ext_trans HW.out hbz)
 clear c_a_0 c_a_1 c_a_2 c_b_0 c_b_1 c_b_2
 clear hbz
 have h9 : ∃ (t9 : F3) (n9 d9 : Nat), u3 = f3V t9 ∧ Sim (plB t.b (!s.b) (n * e) (m * d)) (plN t.b (!s.b) (n * e) (m * d)) (d * e) t9.b n9 d9 ∧ FX w2' t9 n9 d9 := hu3
 clear hu3
 obtain ⟨t9, n9, d9, rfl, hs9, hx9⟩ := h9
 have HS9 := Lib.hid hs9
 clear hs9
 have HX9 : Hid (FX w2' t9 n9 d9) := Lib.hid (hx9)
 clear hx9
 show wpList _ _ _ _ _ _
 simp only [Act.put, zz5, zz6, zz7]
 obtain ⟨c_o_0, c_o_1, c_o_2⟩ := zs3 HR_o.out
 have f_o_0 := HR_o.out.fre 0
 have f_o_1 := HR_o.out.fre 1
 have f_o_2 := HR_o.out.fre 2
 go_wp2
 obtain ⟨w3', hX⟩ : ∃ Z9, Z9 = (((w2'.setCell ⟨(w.heap.size + 2), 0, none⟩ (.bool t9.b)).setCell ⟨(w.heap.size + 2), 1, none⟩ (.slice t9.a1 t9.n1 t9.c1)).setCell ⟨(w.heap.size + 2), 2, none⟩ (.slice t9.a2 t9.n2 t9.c2)) := ⟨_, rfl⟩
 rw [← hX]
 have n_o : Hid (RH w3' (w.heap.size + 2) #[.bool t9.b, .slice t9.a1 t9.n1 t9.c1, .slice t9.a2 t9.n2 t9.c2] 48) := by rw [hX]; exact Lib.hid ((((HR_o.out).set 0 (.bool t9.b)).set 1 (.slice t9.a1 t9.n1 t9.c1)).set 2 (.slice t9.a2 t9.n2 t9.c2))
 have n_a : Hid (RH w3' w.heap.size #[.bool t.b, .slice t.a1 t.n1 t.c1, .slice t.a2 t.n2 t.c2] 48) := by rw [hX]; exact Lib.hid (zzo (zzo (zzo (HR_a.out) (by omega)) (by omega)) (by omega))
 have n_b : Hid (RH w3' (w.heap.size + 1) #[.bool s.b, .slice s.a1 s.n1 s.c1, .slice s.a2 s.n2 s.c2] 48) := by rw [hX]; exact Lib.hid (zzo (zzo (zzo (HR_b.out) (by omega)) (by omega)) (by omega))
 have HK_ : ∀ p : Addr, p.block ≠ (w.heap.size + 2) → w3'.cell? p = w2'.cell? p := fun p hp => by rw [hX]; exact (cs_other' hp).trans ((cs_other' hp).trans (cs_other' hp))
 have n_Ha : Hid (FX w3' t n d) := Lib.hid (Ha.out.far HR_o.out.box (noI_all (by simp [isI])) HK_)
 have n_Hb : Hid (FX w3' s m e) := Lib.hid (Hb.out.far HR_o.out.box (noI_all (by simp [isI])) HK_)
 have n_HX9 : Hid (FX w3' t9 n9 d9) := Lib.hid (HX9.out.far HR_o.out.box (noI_all (by simp [isI])) HK_)
 have nW : Hid (Below w.heap.size w w3') := by rw [hX]; exact Lib.hid (zzw (zzw (zzw (HW.out) (by omega)) (by omega)) (by omega))
 clear c_o_0 c_o_1 c_o_2 f_o_0 f_o_1 f_o_2
 clear hX HK_ HW HR_a HR_b HR_o Ha Hb HX9
 have HR_a := n_a; clear n_a
 have HR_b := n_b; clear n_b
 have HR_o := n_o; clear n_o
 have Ha := n_Ha; clear n_Ha
 have Hb := n_Hb; clear n_Hb
 have HX9 := n_HX9; clear n_HX9
 have HW := nW; clear nW
 exact bodyPost_ret (v := .agg #[.bool t9.b, .slice t9.a1 t9.n1 t9.c1, .slice t9.a2 t9.n2 t9.c2]) (results_cell_row rfl _ _ _ _ _ _ _ rfl HR_o.out Tryz.underlying48 rfl (by kernel_rfl : (Tryz.prog.info? 48).map (·.size) = some 3)) rfl ⟨t9, n9, d9, rfl, HS9.out, HX9.out, HW.out⟩
end Nt
end Go.Proofs.YtiieckboccbhhaaGreatDoor
