/- Methods of the reference's fractions. Printed by gen_frac.py. -/
import Derived.Test.YtiieckboccbhhaaGreatDoorB925
import Derived.Test.YtiieckboccbhhaaGreatDoorB910
import Derived.Test.YtiieckboccbhhaaGreatDoorB900
import Derived.Test.YtiieckboccbhhaaGreatDoorB904
import Derived.Test.YtiieckboccbhhaaGreatDoorB923
namespace Go.Proofs.YtiieckboccbhhaaGreatDoor
open Go.RowKit
namespace Nt
theorem cmpN_ge' {x y : Nat} : 0 ≤ cmpN x y ↔ y ≤ x := by unfold cmpN; split <;> (try split) <;> omega
theorem FX.lens {w : World} {t : F3} {n d : Nat} (h : FX w t n d) : t.n1 = wlen n ∧ t.n2 = wlen d := by
 obtain ⟨a, c, e, _⟩ := h.num.open_
 obtain ⟨a', c', e', _⟩ := h.den.open_
 injection e with _ e1 _
 injection e' with _ e2 _
 exact ⟨e1, e2⟩
theorem nord_at (x y : Nat) (v u : Value) (w : World) (hx : N w v x) (hy : N w u y) : Calls Tryz.prog 71 #[v, u] w (fun e w' => e = .returned (.int .i64 (cmpN x y)) ∧ Below w.heap.size w w') := by
 refine (order_at x y v u w hx hy).mono ?_
 rintro e w' ⟨rfl, k, rfl⟩
 exact ⟨rfl, ⟨rfl, rfl, rfl, Nat.le_refl _, fun _ _ => rfl⟩⟩
def TP.fc (b : Bool) (n d : Nat) : TP := ⟨fun w v => ∃ t : F3, v = f3V t ∧ t.b = b ∧ FX w t n d, fun _ _ _ hb ⟨t, h1, h2, h3⟩ => ⟨t, h1, h2, h3.ext hb⟩⟩
def TP.sim (b : Bool) (n d : Nat) : TP := ⟨fun w v => ∃ (t : F3) (n' d' : Nat), v = f3V t ∧ Sim b n d t.b n' d' ∧ FX w t n' d', fun _ _ _ hb ⟨t, n', d', h1, h2, h3⟩ => ⟨t, n', d', h1, h2, h3.ext hb⟩⟩
theorem fc_open {w : World} {b : Bool} {x y : Value} {n d : Nat} (h1 : N w x n) (h2 : N w y d) : ∃ t : F3, (.agg #[.bool b, x, y] : Value) = f3V t ∧ t.b = b ∧ FX w t n d := by
 obtain ⟨a, c, rfl, _⟩ := h1.open_
 obtain ⟨a', c', rfl, _⟩ := h2.open_
 exact ⟨⟨b, a, _, c, a', _, c'⟩, rfl, rfl, h1, h2⟩
set_option maxRecDepth 100000 in
set_option maxHeartbeats 16000000 in
theorem low_at (t : F3) (n d g p q : Nat) (hd : 0 < d) (hg : d.gcd n = g) (hp : n / g = p) (hq : d / g = q) (l1 : wlen n ≤ 100000000) (l2 : wlen d ≤ 100000000) (w : World) (hx : FX w t n d) : Calls Tryz.prog 50 #[f3V t] w (FcPost w (t.b && decide (0 < p)) p q) := by
 have H0a := Lib.hid hx
 clear hx
 go_enter Tryz.func50, Tryz.ntmps50
 go_upto_region 1 with (fail)
 refine wp_frs2 fun w1' hbz hR0 hR1 => ?_
 have HR_a : Hid (RH w1' w.heap.size #[.bool t.b, .slice t.a1 t.n1 t.c1, .slice t.a2 t.n2 t.c2] 48) := Lib.hid hR0
 have HR_o : Hid (RH w1' (w.heap.size + 1) #[.bool false, .slice none 0 0, .slice none 0 0] 48) := Lib.hid hR1
 have HW := Lib.hid hbz
 clear hbz hR0 hR1
 have Ha : Hid (FX w1' t n d) := Lib.hid (H0a.out.ext HW.out)
 clear H0a
 have hg0 : 0 < g := by rw [← hg]; exact Nat.gcd_pos_of_pos_left _ hd
 have HG := Lib.hid hg
 have HP := Lib.hid hp
 have HQ := Lib.hid hq
 clear hg hp hq
 obtain ⟨c_a_0, c_a_1, c_a_2⟩ := zs3 HR_a.out
 go_wp2_with fail
 refine ((by have h := divisor_at d n _ _ w1' Ha.out.den Ha.out.num (by omega) (by omega); rw [HG.out] at h; exact h : Calls _ _ _ w1' (NPost w1' g))).mono ?_
 rintro e w2' ⟨vg, rfl, hvg, hbz⟩
 obtain ⟨ag, cg, rfl, _⟩ := hvg.open_
 replace HR_a := Lib.hid (HR_a.out.ext hbz)
 replace HR_o := Lib.hid (HR_o.out.ext hbz)
 replace Ha := Lib.hid (Ha.out.ext hbz)
 replace HW := Lib.hid (ext_trans HW.out hbz)
 clear c_a_0 c_a_1 c_a_2
 clear hbz
 have HVG : Hid (N w2' (.slice ag (digs g).length cg) g) := Lib.hid hvg
 clear hvg
 obtain ⟨c_a_0, c_a_1, c_a_2⟩ := zs3 HR_a.out
 go_wp2_with fail
 refine (divide_at n g _ _ w2' Ha.out.num HVG.out (by omega) hg0).mono ?_
 rintro e w3' ⟨vn, vr, rfl, hvn, hvr, hbz⟩
 rw [HP.out] at hvn
 clear hvr
 obtain ⟨an, cn, rfl, _⟩ := hvn.open_
 replace HR_a := Lib.hid (HR_a.out.ext hbz)
 replace HR_o := Lib.hid (HR_o.out.ext hbz)
 replace Ha := Lib.hid (Ha.out.ext hbz)
 replace HVG := Lib.hid (HVG.out.ext hbz)
 replace HW := Lib.hid (ext_trans HW.out hbz)
 clear c_a_0 c_a_1 c_a_2
 clear hbz
 have HVN : Hid (N w3' (.slice an (digs p).length cn) p) := Lib.hid hvn
 clear hvn
 obtain ⟨c_a_0, c_a_1, c_a_2⟩ := zs3 HR_a.out
 go_wp2_with fail
 refine (divide_at d g _ _ w3' Ha.out.den HVG.out (by omega) hg0).mono ?_
 rintro e w4' ⟨vd, vr, rfl, hvd, hvr, hbz⟩
 rw [HQ.out] at hvd
 clear hvr
 obtain ⟨ad, cd, rfl, _⟩ := hvd.open_
 replace HR_a := Lib.hid (HR_a.out.ext hbz)
 replace HR_o := Lib.hid (HR_o.out.ext hbz)
 replace Ha := Lib.hid (Ha.out.ext hbz)
 replace HVG := Lib.hid (HVG.out.ext hbz)
 replace HVN := Lib.hid (HVN.out.ext hbz)
 replace HW := Lib.hid (ext_trans HW.out hbz)
 clear c_a_0 c_a_1 c_a_2
 clear hbz
 have HVD : Hid (N w4' (.slice ad (digs q).length cd) q) := Lib.hid hvd
 clear hvd
 clear HVG
 clear Ha
 by_cases hb : t.b = true
 -- ways
 ·by_cases hp0 : p = 0
  ·have hlp : ((digs p).length : Int) = 0 := by rw [hp0, digs_zero]; rfl
   have HV : Hid (false = (t.b && decide (0 < p))) := Lib.hid (by rw [hp0]; simp)
   clear hp0
   obtain ⟨c_a_0, c_a_1, c_a_2⟩ := zs3 HR_a.out
   obtain ⟨c_o_0, c_o_1, c_o_2⟩ := zs3 HR_o.out
   have f_o_0 := HR_o.out.fre 0
   have f_o_1 := HR_o.out.fre 1
   have f_o_2 := HR_o.out.fre 2
   go_wp2
   obtain ⟨w5', hX⟩ : ∃ Z9, Z9 = (((w4'.setCell ⟨(w.heap.size + 1), 0, none⟩ (.bool false)).setCell ⟨(w.heap.size + 1), 1, none⟩ (.slice an (digs p).length cn)).setCell ⟨(w.heap.size + 1), 2, none⟩ (.slice ad (digs q).length cd)) := ⟨_, rfl⟩
   rw [← hX]
   have n_o : Hid (RH w5' (w.heap.size + 1) #[.bool false, .slice an (digs p).length cn, .slice ad (digs q).length cd] 48) := by rw [hX]; exact Lib.hid ((((HR_o.out).set 0 (.bool false)).set 1 (.slice an (digs p).length cn)).set 2 (.slice ad (digs q).length cd))
   have n_a : Hid (RH w5' w.heap.size #[.bool t.b, .slice t.a1 t.n1 t.c1, .slice t.a2 t.n2 t.c2] 48) := by rw [hX]; exact Lib.hid (zzo (zzo (zzo (HR_a.out) (by omega)) (by omega)) (by omega))
   have HK_ : ∀ p : Addr, p.block ≠ (w.heap.size + 1) → w5'.cell? p = w4'.cell? p := fun p hp => by rw [hX]; exact (cs_other' hp).trans ((cs_other' hp).trans (cs_other' hp))
   have n_HVN : Hid (N w5' (.slice an (digs p).length cn) p) := Lib.hid (HVN.out.far HR_o.out.box (noI_all (by simp [isI])) HK_)
   have n_HVD : Hid (N w5' (.slice ad (digs q).length cd) q) := Lib.hid (HVD.out.far HR_o.out.box (noI_all (by simp [isI])) HK_)
   have nW : Hid (Below w.heap.size w w5') := by rw [hX]; exact Lib.hid (zzw (zzw (zzw (HW.out) (by omega)) (by omega)) (by omega))
   clear c_a_0 c_a_1 c_a_2 c_o_0 c_o_1 c_o_2 f_o_0 f_o_1 f_o_2
   clear hX HK_ HW HR_a HR_o HVN HVD
   have HR_a := n_a; clear n_a
   have HR_o := n_o; clear n_o
   have HVN := n_HVN; clear n_HVN
   have HVD := n_HVD; clear n_HVD
   have HW := nW; clear nW
   exact bodyPost_ret (v := .agg #[.bool false, .slice an (digs p).length cn, .slice ad (digs q).length cd]) (results_cell_row rfl _ _ _ _ _ _ _ rfl HR_o.out Tryz.underlying48 rfl (by kernel_rfl : (Tryz.prog.info? 48).map (·.size) = some 3)) rfl ⟨⟨false, an, _, cn, ad, _, cd⟩, rfl, HV.out, ⟨HVN.out, HVD.out⟩, HW.out⟩
  ·have hlp : 0 < (digs p).length := by have h1 : wlen p ≠ 0 := fun h => hp0 (wlen_eq_zero.1 h); unfold wlen at h1; omega
   have HV : Hid (true = (t.b && decide (0 < p))) := Lib.hid (by rw [hb, decide_eq_true (by omega : 0 < p)]; rfl)
   clear hp0
   obtain ⟨c_a_0, c_a_1, c_a_2⟩ := zs3 HR_a.out
   obtain ⟨c_o_0, c_o_1, c_o_2⟩ := zs3 HR_o.out
   have f_o_0 := HR_o.out.fre 0
   have f_o_1 := HR_o.out.fre 1
   have f_o_2 := HR_o.out.fre 2
   go_wp2
   obtain ⟨w5', hX⟩ : ∃ Z9, Z9 = (((w4'.setCell ⟨(w.heap.size + 1), 0, none⟩ (.bool true)).setCell ⟨(w.heap.size + 1), 1, none⟩ (.slice an (digs p).length cn)).setCell ⟨(w.heap.size + 1), 2, none⟩ (.slice ad (digs q).length cd)) := ⟨_, rfl⟩
   rw [← hX]
   have n_o : Hid (RH w5' (w.heap.size + 1) #[.bool true, .slice an (digs p).length cn, .slice ad (digs q).length cd] 48) := by rw [hX]; exact Lib.hid ((((HR_o.out).set 0 (.bool true)).set 1 (.slice an (digs p).length cn)).set 2 (.slice ad (digs q).length cd))
   have n_a : Hid (RH w5' w.heap.size #[.bool t.b, .slice t.a1 t.n1 t.c1, .slice t.a2 t.n2 t.c2] 48) := by rw [hX]; exact Lib.hid (zzo (zzo (zzo (HR_a.out) (by omega)) (by omega)) (by omega))
   have HK_ : ∀ p : Addr, p.block ≠ (w.heap.size + 1) → w5'.cell? p = w4'.cell? p := fun p hp => by rw [hX]; exact (cs_other' hp).trans ((cs_other' hp).trans (cs_other' hp))
   have n_HVN : Hid (N w5' (.slice an (digs p).length cn) p) := Lib.hid (HVN.out.far HR_o.out.box (noI_all (by simp [isI])) HK_)
   have n_HVD : Hid (N w5' (.slice ad (digs q).length cd) q) := Lib.hid (HVD.out.far HR_o.out.box (noI_all (by simp [isI])) HK_)
   have nW : Hid (Below w.heap.size w w5') := by rw [hX]; exact Lib.hid (zzw (zzw (zzw (HW.out) (by omega)) (by omega)) (by omega))
   clear c_a_0 c_a_1 c_a_2 c_o_0 c_o_1 c_o_2 f_o_0 f_o_1 f_o_2
   clear hX HK_ HW HR_a HR_o HVN HVD
   have HR_a := n_a; clear n_a
   have HR_o := n_o; clear n_o
   have HVN := n_HVN; clear n_HVN
   have HVD := n_HVD; clear n_HVD
   have HW := nW; clear nW
   exact bodyPost_ret (v := .agg #[.bool true, .slice an (digs p).length cn, .slice ad (digs q).length cd]) (results_cell_row rfl _ _ _ _ _ _ _ rfl HR_o.out Tryz.underlying48 rfl (by kernel_rfl : (Tryz.prog.info? 48).map (·.size) = some 3)) rfl ⟨⟨true, an, _, cn, ad, _, cd⟩, rfl, HV.out, ⟨HVN.out, HVD.out⟩, HW.out⟩
 ·have hb' : t.b = false := by simpa using hb
  have HV : Hid (false = (t.b && decide (0 < p))) := Lib.hid (by rw [hb']; rfl)
  clear hb
  obtain ⟨c_a_0, c_a_1, c_a_2⟩ := zs3 HR_a.out
  obtain ⟨c_o_0, c_o_1, c_o_2⟩ := zs3 HR_o.out
  have f_o_0 := HR_o.out.fre 0
  have f_o_1 := HR_o.out.fre 1
  have f_o_2 := HR_o.out.fre 2
  go_wp2
  obtain ⟨w5', hX⟩ : ∃ Z9, Z9 = (((w4'.setCell ⟨(w.heap.size + 1), 0, none⟩ (.bool false)).setCell ⟨(w.heap.size + 1), 1, none⟩ (.slice an (digs p).length cn)).setCell ⟨(w.heap.size + 1), 2, none⟩ (.slice ad (digs q).length cd)) := ⟨_, rfl⟩
  rw [← hX]
  have n_o : Hid (RH w5' (w.heap.size + 1) #[.bool false, .slice an (digs p).length cn, .slice ad (digs q).length cd] 48) := by rw [hX]; exact Lib.hid ((((HR_o.out).set 0 (.bool false)).set 1 (.slice an (digs p).length cn)).set 2 (.slice ad (digs q).length cd))
  have n_a : Hid (RH w5' w.heap.size #[.bool t.b, .slice t.a1 t.n1 t.c1, .slice t.a2 t.n2 t.c2] 48) := by rw [hX]; exact Lib.hid (zzo (zzo (zzo (HR_a.out) (by omega)) (by omega)) (by omega))
  have HK_ : ∀ p : Addr, p.block ≠ (w.heap.size + 1) → w5'.cell? p = w4'.cell? p := fun p hp => by rw [hX]; exact (cs_other' hp).trans ((cs_other' hp).trans (cs_other' hp))
  have n_HVN : Hid (N w5' (.slice an (digs p).length cn) p) := Lib.hid (HVN.out.far HR_o.out.box (noI_all (by simp [isI])) HK_)
  have n_HVD : Hid (N w5' (.slice ad (digs q).length cd) q) := Lib.hid (HVD.out.far HR_o.out.box (noI_all (by simp [isI])) HK_)
  have nW : Hid (Below w.heap.size w w5') := by rw [hX]; exact Lib.hid (zzw (zzw (zzw (HW.out) (by omega)) (by omega)) (by omega))
  clear c_a_0 c_a_1 c_a_2 c_o_0 c_o_1 c_o_2 f_o_0 f_o_1 f_o_2
  clear hX HK_ HW HR_a HR_o HVN HVD
  have HR_a := n_a; clear n_a
  have HR_o := n_o; clear n_o
  have HVN := n_HVN; clear n_HVN
  have HVD := n_HVD; clear n_HVD
  have HW := nW; clear nW
  exact bodyPost_ret (v := .agg #[.bool false, .slice an (digs p).length cn, .slice ad (digs q).length cd]) (results_cell_row rfl _ _ _ _ _ _ _ rfl HR_o.out Tryz.underlying48 rfl (by kernel_rfl : (Tryz.prog.info? 48).map (·.size) = some 3)) rfl ⟨⟨false, an, _, cn, ad, _, cd⟩, rfl, HV.out, ⟨HVN.out, HVD.out⟩, HW.out⟩
set_option maxRecDepth 100000 in
set_option maxHeartbeats 16000000 in
theorem red_at (t : F3) (n d : Nat) (hd : 0 < d) (l1 : wlen n ≤ 100000000) (l2 : wlen d ≤ 100000000) (w : World) (hx : FX w t n d) : Calls Tryz.prog 66 #[f3V t] w (SimPost w t.b n d) := by
 have H0a := Lib.hid hx
 clear hx
 go_enter Tryz.func66, Tryz.ntmps66
 go_upto_region 1 with (fail)
 refine wp_frs2 fun w1' hbz hR0 hR1 => ?_
 have HR_a : Hid (RH w1' w.heap.size #[.bool t.b, .slice t.a1 t.n1 t.c1, .slice t.a2 t.n2 t.c2] 48) := Lib.hid hR0
 have HR_o : Hid (RH w1' (w.heap.size + 1) #[.bool false, .slice none 0 0, .slice none 0 0] 48) := Lib.hid hR1
 have HW := Lib.hid hbz
 clear hbz hR0 hR1
 have Ha : Hid (FX w1' t n d) := Lib.hid (H0a.out.ext HW.out)
 clear H0a
 have hln := Ha.out.lens
 have hn1 : (t.n1 : Int) ≤ 100000000 := by omega
 have hn2 : (t.n2 : Int) ≤ 100000000 := by omega
 clear hln
 obtain ⟨c_a_0, c_a_1, c_a_2⟩ := zs3 HR_a.out
 by_cases hs : t.n1 + t.n2 < 12
 ·have hs' : (t.n1 : Int) + (t.n2 : Int) < 12 := by omega
  clear hs
  obtain ⟨c_o_0, c_o_1, c_o_2⟩ := zs3 HR_o.out
  have f_o_0 := HR_o.out.fre 0
  have f_o_1 := HR_o.out.fre 1
  have f_o_2 := HR_o.out.fre 2
  go_wp2
  obtain ⟨w2', hX⟩ : ∃ Z9, Z9 = (((w1'.setCell ⟨(w.heap.size + 1), 0, none⟩ (.bool t.b)).setCell ⟨(w.heap.size + 1), 1, none⟩ (.slice t.a1 t.n1 t.c1)).setCell ⟨(w.heap.size + 1), 2, none⟩ (.slice t.a2 t.n2 t.c2)) := ⟨_, rfl⟩
  rw [← hX]
  have n_o : Hid (RH w2' (w.heap.size + 1) #[.bool t.b, .slice t.a1 t.n1 t.c1, .slice t.a2 t.n2 t.c2] 48) := by rw [hX]; exact Lib.hid ((((HR_o.out).set 0 (.bool t.b)).set 1 (.slice t.a1 t.n1 t.c1)).set 2 (.slice t.a2 t.n2 t.c2))
  have n_a : Hid (RH w2' w.heap.size #[.bool t.b, .slice t.a1 t.n1 t.c1, .slice t.a2 t.n2 t.c2] 48) := by rw [hX]; exact Lib.hid (zzo (zzo (zzo (HR_a.out) (by omega)) (by omega)) (by omega))
  have HK_ : ∀ p : Addr, p.block ≠ (w.heap.size + 1) → w2'.cell? p = w1'.cell? p := fun p hp => by rw [hX]; exact (cs_other' hp).trans ((cs_other' hp).trans (cs_other' hp))
  have n_Ha : Hid (FX w2' t n d) := Lib.hid (Ha.out.far HR_o.out.box (noI_all (by simp [isI])) HK_)
  have nW : Hid (Below w.heap.size w w2') := by rw [hX]; exact Lib.hid (zzw (zzw (zzw (HW.out) (by omega)) (by omega)) (by omega))
  clear c_a_0 c_a_1 c_a_2 c_o_0 c_o_1 c_o_2 f_o_0 f_o_1 f_o_2
  clear hX HK_ HW HR_a HR_o Ha
  have HR_a := n_a; clear n_a
  have HR_o := n_o; clear n_o
  have Ha := n_Ha; clear n_Ha
  have HW := nW; clear nW
  exact bodyPost_ret (v := .agg #[.bool t.b, .slice t.a1 t.n1 t.c1, .slice t.a2 t.n2 t.c2]) (results_cell_row rfl _ _ _ _ _ _ _ rfl HR_o.out Tryz.underlying48 rfl (by kernel_rfl : (Tryz.prog.info? 48).map (·.size) = some 3)) rfl ⟨t, n, d, rfl, Sim.refl _ _ _, Ha.out, HW.out⟩
 ·have hs' : ¬ (t.n1 : Int) + (t.n2 : Int) < 12 := by omega
  clear hs
  go_wp2_with fail
  refine (low_at t n d _ _ _ hd rfl rfl rfl l1 l2 w1' Ha.out).mono ?_
  rintro e w2' ⟨s, rfl, hsb, hx2, hbz⟩
  have HSB := Lib.hid hsb
  clear hsb
  replace HR_a := Lib.hid (HR_a.out.ext hbz)
  replace HR_o := Lib.hid (HR_o.out.ext hbz)
  replace Ha := Lib.hid (Ha.out.ext hbz)
  replace HW := Lib.hid (ext_trans HW.out hbz)
  clear c_a_0 c_a_1 c_a_2
  clear hbz
  have HX2 : Hid (FX w2' s (n / d.gcd n) (d / d.gcd n)) := Lib.hid hx2
  clear hx2
  obtain ⟨c_o_0, c_o_1, c_o_2⟩ := zs3 HR_o.out
  have f_o_0 := HR_o.out.fre 0
  have f_o_1 := HR_o.out.fre 1
  have f_o_2 := HR_o.out.fre 2
  go_wp2
  obtain ⟨w3', hX⟩ : ∃ Z9, Z9 = (((w2'.setCell ⟨(w.heap.size + 1), 0, none⟩ (.bool s.b)).setCell ⟨(w.heap.size + 1), 1, none⟩ (.slice s.a1 s.n1 s.c1)).setCell ⟨(w.heap.size + 1), 2, none⟩ (.slice s.a2 s.n2 s.c2)) := ⟨_, rfl⟩
  rw [← hX]
  have n_o : Hid (RH w3' (w.heap.size + 1) #[.bool s.b, .slice s.a1 s.n1 s.c1, .slice s.a2 s.n2 s.c2] 48) := by rw [hX]; exact Lib.hid ((((HR_o.out).set 0 (.bool s.b)).set 1 (.slice s.a1 s.n1 s.c1)).set 2 (.slice s.a2 s.n2 s.c2))
  have n_a : Hid (RH w3' w.heap.size #[.bool t.b, .slice t.a1 t.n1 t.c1, .slice t.a2 t.n2 t.c2] 48) := by rw [hX]; exact Lib.hid (zzo (zzo (zzo (HR_a.out) (by omega)) (by omega)) (by omega))
  have HK_ : ∀ p : Addr, p.block ≠ (w.heap.size + 1) → w3'.cell? p = w2'.cell? p := fun p hp => by rw [hX]; exact (cs_other' hp).trans ((cs_other' hp).trans (cs_other' hp))
  have n_Ha : Hid (FX w3' t n d) := Lib.hid (Ha.out.far HR_o.out.box (noI_all (by simp [isI])) HK_)
  have n_HX2 : Hid (FX w3' s (n / d.gcd n) (d / d.gcd n)) := Lib.hid (HX2.out.far HR_o.out.box (noI_all (by simp [isI])) HK_)
  have nW : Hid (Below w.heap.size w w3') := by rw [hX]; exact Lib.hid (zzw (zzw (zzw (HW.out) (by omega)) (by omega)) (by omega))
  clear c_o_0 c_o_1 c_o_2 f_o_0 f_o_1 f_o_2
  clear hX HK_ HW HR_a HR_o Ha HX2
  have HR_a := n_a; clear n_a
  have HR_o := n_o; clear n_o
  have Ha := n_Ha; clear n_Ha
  have HX2 := n_HX2; clear n_HX2
  have HW := nW; clear nW
  exact bodyPost_ret (v := .agg #[.bool s.b, .slice s.a1 s.n1 s.c1, .slice s.a2 s.n2 s.c2]) (results_cell_row rfl _ _ _ _ _ _ _ rfl HR_o.out Tryz.underlying48 rfl (by kernel_rfl : (Tryz.prog.info? 48).map (·.size) = some 3)) rfl ⟨s, _, _, rfl, by rw [HSB.out]; exact Sim.low hd, HX2.out, HW.out⟩
set_option maxRecDepth 100000 in
set_option maxHeartbeats 16000000 in
theorem ftimes_at (t s : F3) (n d m e : Nat) (hd : 0 < d) (he : 0 < e) (l1 : wlen n ≤ 10000000) (l2 : wlen d ≤ 10000000) (l3 : wlen m ≤ 10000000) (l4 : wlen e ≤ 10000000) (w : World) (hx : FX w t n d) (hy : FX w s m e) : Calls Tryz.prog 49 #[f3V t, f3V s] w (SimPost w (t.b != s.b) (n * m) (d * e)) := by
 have H0a := Lib.hid hx
 clear hx
 have H0b := Lib.hid hy
 clear hy
 go_enter Tryz.func49, Tryz.ntmps49
 go_upto_region 1 with (fail)
 refine wp_frs3 fun w1' hbz hR0 hR1 hR2 => ?_
 have HR_a : Hid (RH w1' w.heap.size #[.bool t.b, .slice t.a1 t.n1 t.c1, .slice t.a2 t.n2 t.c2] 48) := Lib.hid hR0
 have HR_b : Hid (RH w1' (w.heap.size + 1) #[.bool s.b, .slice s.a1 s.n1 s.c1, .slice s.a2 s.n2 s.c2] 48) := Lib.hid hR1
 have HR_o : Hid (RH w1' (w.heap.size + 2) #[.bool false, .slice none 0 0, .slice none 0 0] 48) := Lib.hid hR2
 have HW := Lib.hid hbz
 clear hbz hR0 hR1 hR2
 have Ha : Hid (FX w1' t n d) := Lib.hid (H0a.out.ext HW.out)
 have Hb : Hid (FX w1' s m e) := Lib.hid (H0b.out.ext HW.out)
 clear H0a H0b
 obtain ⟨c_a_0, c_a_1, c_a_2⟩ := zs3 HR_a.out
 obtain ⟨c_b_0, c_b_1, c_b_2⟩ := zs3 HR_b.out
 have hde : 0 < d * e := Nat.mul_pos hd he
 have w1 := wlen_mul n m
 have w2 := wlen_mul d e
 refine Grow.wp_region_grow 17 [TP.eq (.pointer (some ⟨w.heap.size, 0, none⟩)), TP.eq (.bool t.b), TP.eq (.pointer (some ⟨(w.heap.size + 1), 0, none⟩)), TP.eq (.bool s.b), TP.eq (.bool (t.b != s.b)), TP.eq (.pointer (some ⟨w.heap.size, 1, none⟩)), TP.eq (.slice t.a1 t.n1 t.c1), TP.eq (.pointer (some ⟨(w.heap.size + 1), 1, none⟩)), TP.eq (.slice s.a1 s.n1 s.c1), TP.nat (n * m), TP.eq (.pointer (some ⟨w.heap.size, 2, none⟩)), TP.eq (.slice t.a2 t.n2 t.c2), TP.eq (.pointer (some ⟨(w.heap.size + 1), 2, none⟩)), TP.eq (.slice s.a2 s.n2 s.c2), TP.nat (d * e), TP.frac (t.b != s.b) (n * m) (d * e), TP.sim ((t.b != s.b)) (n * m) (d * e)] [[], [0], [], [2], [1, 3], [], [5], [], [7], [6, 8], [], [10], [], [12], [11, 13], [4, 9, 14], [15]] (by kernel_rfl) (by kernel_rfl) ⟨?o0g, ?o1g, ?o2g, ?o3g, ?o4g, ?o5g, ?o6g, ?o7g, ?o8g, ?o9g, ?o10g, ?o11g, ?o12g, ?o13g, ?o14g, ?o15g, ?o16g, trivial⟩ ?_
 case o0g | o2g | o5g | o7g | o10g | o12g =>
  intro w' hb
  show wpList _ _ _ _ _ _
  go_wp2
  exact ⟨rfl, Below.refl _ _, rfl⟩
 case o1g =>
  intro w' hb v1 hv1
  obtain rfl : v1 = _ := hv1
  have c_a_0' := zzc hb c_a_0
  show wpList _ _ _ _ _ _
  simp only [Grow.dstOf, zz1, zz3, zz4, Act.put, zz5, zz6, zz7]
  go_wp2
  exact ⟨rfl, Below.refl _ _, rfl⟩
 case o3g | o6g | o8g | o11g | o13g =>
  intro w' hb v1 hv1
  obtain rfl : v1 = _ := hv1
  have c_b_0' := zzc hb c_b_0
  have c_a_1' := zzc hb c_a_1
  have c_b_1' := zzc hb c_b_1
  have c_a_2' := zzc hb c_a_2
  have c_b_2' := zzc hb c_b_2
  show wpList _ _ _ _ _ _
  simp only [Grow.dstOf, zz1, zz2, zz3, zz4, Act.put, zz5, zz6, zz7]
  go_wp2
  exact ⟨rfl, Below.refl _ _, rfl⟩
 case o4g =>
  intro w' hb v1 hv1 v2 hv2
  obtain rfl : v1 = _ := hv1
  obtain rfl : v2 = _ := hv2
  show wpList _ _ _ _ _ _
  simp only [Grow.dstOf, zz1, zz2, zz3, zz4, Act.put, zz5, zz6, zz7]
  go_wp2
  exact ⟨rfl, Below.refl _ _, rfl⟩
 case o9g =>
  intro w' hb v1 hv1 v2 hv2
  obtain rfl : v1 = _ := hv1
  obtain rfl : v2 = _ := hv2
  show wpList _ _ _ _ _ _
  simp only [Grow.dstOf, zz1, zz2, zz3, zz4, Act.put, zz5, zz6, zz7]
  go_wp2_with fail
  refine (times_at n m _ _ w' (Ha.out.num.ext hb) (Hb.out.num.ext hb) (by omega) (by omega)).mono ?_
  rintro e wz ⟨vz, rfl, hvz, hbz⟩
  go_wp2
  exact ⟨hvz, hbz, rfl⟩
 case o14g =>
  intro w' hb v1 hv1 v2 hv2
  obtain rfl : v1 = _ := hv1
  obtain rfl : v2 = _ := hv2
  show wpList _ _ _ _ _ _
  simp only [Grow.dstOf, zz1, zz2, zz3, zz4, Act.put, zz5, zz6, zz7]
  go_wp2_with fail
  refine (times_at d e _ _ w' (Ha.out.den.ext hb) (Hb.out.den.ext hb) (by omega) (by omega)).mono ?_
  rintro e wz ⟨vz, rfl, hvz, hbz⟩
  go_wp2
  exact ⟨hvz, hbz, rfl⟩
 case o15g =>
  intro w' hb v1 hv1 v2 hv2 v3 hv3
  obtain rfl : v1 = _ := hv1
  have hn2 : N w' v2 (n * m) := hv2
  obtain ⟨ax2, cx2, rfl, _⟩ := hn2.open_
  have hn3 : N w' v3 (d * e) := hv3
  obtain ⟨ax3, cx3, rfl, _⟩ := hn3.open_
  show wpList _ _ _ _ _ _
  simp only [Grow.dstOf, zz1, zz2, zz3, zz4, Act.put, zz5, zz6, zz7]
  go_wp2
  exact ⟨⟨_, _, rfl, hn2, hn3⟩, Below.refl _ _, rfl⟩
 case o16g =>
  intro w' hb v1 hv1
  obtain ⟨x1, x2, rfl, hx1, hx2⟩ := hv1
  obtain ⟨t8, e8, hb8, hx8⟩ := fc_open (b := (t.b != s.b)) hx1 hx2
  rw [e8]
  show wpList _ _ _ _ _ _
  simp only [Grow.dstOf, zz1, zz2, zz3, zz4, Act.put, zz5, zz6, zz7]
  go_wp2_with fail
  refine (red_at t8 (n * m) (d * e) (by omega) (by omega) (by omega) w' hx8).mono ?_
  rintro e wz ⟨t9, n9, d9, rfl, hs9, hx9, hbz⟩
  go_wp2
  exact ⟨⟨t9, n9, d9, rfl, by rw [← hb8]; exact hs9, hx9⟩, hbz, rfl⟩
 intro w2' hbz u0 hu0 u1 hu1 u2 hu2 u3 hu3 u4 hu4 u5 hu5 u6 hu6 u7 hu7 u8 hu8 u9 hu9 u10 hu10 u11 hu11 u12 hu12 u13 hu13 u14 hu14 u15 hu15 u16 hu16
 clear hu0 hu1 hu2 hu3 hu4 hu5 hu6 hu7 hu8 hu9 hu10 hu11 hu12 hu13 hu14 hu15
 replace HR_a := Lib.hid (HR_a.out.ext hbz)
 replace HR_b := Lib.hid (HR_b.out.ext hbz)
 replace HR_o := Lib.hid (HR_o.out.ext hbz)
 replace Ha := Lib.hid (Ha.out.ext hbz)
 replace Hb := Lib.hid (Hb.out.ext hbz)
 replace HW := Lib.hid (ext_trans HW.out hbz)
 clear c_a_0 c_a_1 c_a_2 c_b_0 c_b_1 c_b_2
 clear hbz
 have h9 : ∃ (t9 : F3) (n9 d9 : Nat), u16 = f3V t9 ∧ Sim (t.b != s.b) (n * m) (d * e) t9.b n9 d9 ∧ FX w2' t9 n9 d9 := hu16
 clear hu16
 obtain ⟨t9, n9, d9, rfl, hs9, hx9⟩ := h9
 have HS9 := Lib.hid hs9
 clear hs9
 have HX9 : Hid (FX w2' t9 n9 d9) := Lib.hid (hx9)
 clear hx9
 show wpList _ _ _ _ _ _
 simp only [Act.put, zz5, zz6, zz7]
 obtain ⟨c_o_0, c_o_1, c_o_2⟩ := zs3 HR_o.out
 have f_o_0 := HR_o.out.fre 0
 have f_o_1 := HR_o.out.fre 1
 have f_o_2 := HR_o.out.fre 2
 go_wp2
 obtain ⟨w3', hX⟩ : ∃ Z9, Z9 = (((w2'.setCell ⟨(w.heap.size + 2), 0, none⟩ (.bool t9.b)).setCell ⟨(w.heap.size + 2), 1, none⟩ (.slice t9.a1 t9.n1 t9.c1)).setCell ⟨(w.heap.size + 2), 2, none⟩ (.slice t9.a2 t9.n2 t9.c2)) := ⟨_, rfl⟩
 rw [← hX]
 have n_o : Hid (RH w3' (w.heap.size + 2) #[.bool t9.b, .slice t9.a1 t9.n1 t9.c1, .slice t9.a2 t9.n2 t9.c2] 48) := by rw [hX]; exact Lib.hid ((((HR_o.out).set 0 (.bool t9.b)).set 1 (.slice t9.a1 t9.n1 t9.c1)).set 2 (.slice t9.a2 t9.n2 t9.c2))
 have n_a : Hid (RH w3' w.heap.size #[.bool t.b, .slice t.a1 t.n1 t.c1, .slice t.a2 t.n2 t.c2] 48) := by rw [hX]; exact Lib.hid (zzo (zzo (zzo (HR_a.out) (by omega)) (by omega)) (by omega))
 have n_b : Hid (RH w3' (w.heap.size + 1) #[.bool s.b, .slice s.a1 s.n1 s.c1, .slice s.a2 s.n2 s.c2] 48) := by rw [hX]; exact Lib.hid (zzo (zzo (zzo (HR_b.out) (by omega)) (by omega)) (by omega))
 have HK_ : ∀ p : Addr, p.block ≠ (w.heap.size + 2) → w3'.cell? p = w2'.cell? p := fun p hp => by rw [hX]; exact (cs_other' hp).trans ((cs_other' hp).trans (cs_other' hp))
 have n_Ha : Hid (FX w3' t n d) := Lib.hid (Ha.out.far HR_o.out.box (noI_all (by simp [isI])) HK_)
 have n_Hb : Hid (FX w3' s m e) := Lib.hid (Hb.out.far HR_o.out.box (noI_all (by simp [isI])) HK_)
 have n_HX9 : Hid (FX w3' t9 n9 d9) := Lib.hid (HX9.out.far HR_o.out.box (noI_all (by simp [isI])) HK_)
 have nW : Hid (Below w.heap.size w w3') := by rw [hX]; exact Lib.hid (zzw (zzw (zzw (HW.out) (by omega)) (by omega)) (by omega))
 clear c_o_0 c_o_1 c_o_2 f_o_0 f_o_1 f_o_2
 clear hX HK_ HW HR_a HR_b HR_o Ha Hb HX9
 have HR_a := n_a; clear n_a
 have HR_b := n_b; clear n_b
 have HR_o := n_o; clear n_o
 have Ha := n_Ha; clear n_Ha
 have Hb := n_Hb; clear n_Hb
 have HX9 := n_HX9; clear n_HX9
 have HW := nW; clear nW
 exact bodyPost_ret (v := .agg #[.bool t9.b, .slice t9.a1 t9.n1 t9.c1, .slice t9.a2 t9.n2 t9.c2]) (results_cell_row rfl _ _ _ _ _ _ _ rfl HR_o.out Tryz.underlying48 rfl (by kernel_rfl : (Tryz.prog.info? 48).map (·.size) = some 3)) rfl ⟨t9, n9, d9, rfl, HS9.out, HX9.out, HW.out⟩
end Nt
end Go.Proofs.YtiieckboccbhhaaGreatDoor
