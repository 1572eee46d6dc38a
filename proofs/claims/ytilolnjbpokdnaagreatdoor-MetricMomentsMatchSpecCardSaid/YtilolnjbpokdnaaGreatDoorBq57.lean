/- readPlan of package decide. Several evidences: what is right, in plain words. Decimal of package value. Printed by gen_dec.py. Arithmetic of package metric: within, whole, times, minus, over; the number with the other sign. Printed by gen_meta.py. -/
import Derived.Test.YtilolnjbpokdnaaGreatDoorBq37
import Derived.Test.YtilolnjbpokdnaaGreatDoorBq50
import Derived.Test.YtilolnjbpokdnaaGreatDoorBq00
import Derived.Test.YtilolnjbpokdnaaGreatDoorBq01
import Derived.Test.YtilolnjbpokdnaaGreatDoorBq26
import Derived.Test.YtilolnjbpokdnaaGreatDoorProg
import Derived.Test.YtilolnjbpokdnaaGreatDoorBq03
import Derived.Test.YtilolnjbpokdnaaGreatDoorBq04
import Derived.Test.YtilolnjbpokdnaaGreatDoorBq05
import Derived.Test.YtilolnjbpokdnaaGreatDoorBq06
import Derived.Test.YtilolnjbpokdnaaGreatDoorBq07
import Derived.Test.YtilolnjbpokdnaaGreatDoorBq08
import Derived.Test.YtilolnjbpokdnaaGreatDoorBq09
import Derived.Test.YtilolnjbpokdnaaGreatDoorBq10
import Derived.Test.YtilolnjbpokdnaaGreatDoorBq11
import Derived.Test.YtilolnjbpokdnaaGreatDoorBq12
import Derived.Test.YtilolnjbpokdnaaGreatDoorBq27
import Derived.Test.YtilolnjbpokdnaaGreatDoorBq19
import Derived.Test.YtilolnjbpokdnaaGreatDoorBq28
import Derived.Test.YtilolnjbpokdnaaGreatDoorBq29
import Derived.Test.YtilolnjbpokdnaaGreatDoorBq13
import Derived.Test.YtilolnjbpokdnaaGreatDoorBq14
import Derived.Test.YtilolnjbpokdnaaGreatDoorBq15
import Derived.Test.YtilolnjbpokdnaaGreatDoorBq16
import Derived.Test.YtilolnjbpokdnaaGreatDoorBq17
import Derived.Test.YtilolnjbpokdnaaGreatDoorBq18
import Derived.Test.YtilolnjbpokdnaaGreatDoorShelf
import Derived.Test.YtilolnjbpokdnaaGreatDoorBq20
import Derived.Test.YtilolnjbpokdnaaGreatDoorBq21
import Derived.Test.YtilolnjbpokdnaaGreatDoorBq22
import Derived.Test.YtilolnjbpokdnaaGreatDoorBq23
import Derived.Test.YtilolnjbpokdnaaGreatDoorBq24
import Derived.Test.YtilolnjbpokdnaaGreatDoorBq25
import Derived.Test.YtilolnjbpokdnaaGreatDoorBq41
namespace Go.Proofs.YtilolnjbpokdnaaGreatDoor
open Go.RowKit
namespace Nm
def rtL (r : RT) : List Value := [.string r.n, .string r.d]
end Nm
end Go.Proofs.YtilolnjbpokdnaaGreatDoor
namespace Go.Proofs.YtilolnjbpokdnaaGreatDoor
open Go.RowKit
namespace Nm
theorem rat_neg {q : Rat} : q.num < 0 ↔ q < 0 := by
  rw [Rat.lt_iff]
  simp
end Nm
end Go.Proofs.YtilolnjbpokdnaaGreatDoor
namespace Go.Proofs.YtilolnjbpokdnaaGreatDoor
open Go.RowKit
namespace Nm
theorem tail_none {P : Program} {ops : Array Oper} {Q : Exit → Act → World → Prop} {a : Act} {w : World} (h : Q .normal a w) : wpList P ops Q [] a w := h
end Nm
end Go.Proofs.YtilolnjbpokdnaaGreatDoor
namespace Go.Proofs.YtilolnjbpokdnaaGreatDoor
open Go.RowKit
namespace Nm
theorem neg_facts (q : Rat) : (-q).num.natAbs = q.num.natAbs ∧ (-q).den = q.den ∧ decide ((-q).num < 0) = decide (0 < q.num) := by
 rw [Rat.neg_num, Rat.neg_den]
 refine ⟨by omega, rfl, ?_⟩
 rw [Bool.eq_iff_iff, decide_eq_true_eq, decide_eq_true_eq]; omega
theorem Sm.neg {q : Rat} (h : Sm q) : Sm (-q) := by
 obtain ⟨h1, h2, _⟩ := neg_facts q
 unfold Sm; rw [h1, h2]; exact h
set_option maxHeartbeats 4000000 in
theorem xminus_at (q : Rat) (v : Value) (w : World) (hx : XR w v q) : Calls Tryz.prog 140 #[v] w (XPost w (-q)) := by
 obtain ⟨a1, c1, a2, c2, rfl, h1, h2⟩ := hx.open_
 have H1 := Lib.hid h1
 have H2 := Lib.hid h2
 have HI := Lib.hid (neg_facts q)
 have hwz := @wlen_eq_zero q.num.natAbs
 unfold wlen at hwz
 have HP : Hid (∀ b : Bool, (b = true ↔ 0 < q.num) → decide ((-q).num < 0) = b) := Lib.hid fun b hb => by rw [HI.out.2.2, Bool.eq_iff_iff, decide_eq_true_eq]; exact hb.symm
 clear h1 h2 hx
 by_cases hb : q.num < 0
 ·have HB : Hid (decide ((-q).num < 0) = false) := Lib.hid (HP.out false (by simp; omega))
  rw [decide_eq_true hb]
  clear hb hwz HP
  go_enter Tryz.func140, Tryz.ntmps140
  go_upto_region 1 with (fail)
  refine wp_box2r fun W hsz hbW hA hC hF => ?_
  obtain ⟨_, hA2⟩ := id hA
  obtain ⟨r0, r1, r2⟩ := boxX hC
  have g0 := hF 0
  have g1 := hF 1
  have g2 := hF 2
  obtain ⟨k1, k2, k3, z0, z1, z2⟩ := res3 false hC (H1.out.ext hbW) (H2.out.ext hbW) hbW (by omega)
  have HK := Lib.hid (And.intro k1 (And.intro k2 k3))
  clear k1 k2 k3 hsz
  go_wp2
  refine bodyPost_ret (v := .agg #[.bool false, .slice a1 (digs q.num.natAbs).length c1, .slice a2 (digs q.den).length c2]) (by simp [results, Tryz.results140, go_sem, z0, z1, z2]) rfl ⟨_, rfl, ⟨.slice a1 (digs q.num.natAbs).length c1, .slice a2 (digs q.den).length c2, ?_, ?_, ?_⟩, HK.out.2.2⟩
  ·rw [HB.out]
  ·rw [HI.out.1]; exact HK.out.1
  ·rw [HI.out.2.1]; exact HK.out.2.1
 ·obtain ⟨L, hL⟩ : ∃ L, (digs q.num.natAbs).length = L := ⟨_, rfl⟩
  have HB : Hid (decide ((-q).num < 0) = decide (0 < L)) := Lib.hid (by
   refine HP.out _ ?_
   rw [decide_eq_true_eq, ← hL]; omega)
  have HL := Lib.hid hL
  rw [decide_eq_false hb]
  rw [hL] at hwz ⊢
  rw [hL] at H1
  clear hb hwz HP hL
  go_enter Tryz.func140, Tryz.ntmps140
  go_upto_region 1 with (fail)
  refine wp_box2r fun W hsz hbW hA hC hF => ?_
  obtain ⟨_, hA2⟩ := id hA
  obtain ⟨r0, r1, r2⟩ := boxX hC
  have g0 := hF 0
  have g1 := hF 1
  have g2 := hF 2
  obtain ⟨k1, k2, k3, z0, z1, z2⟩ := res3 (decide (0 < L)) hC (H1.out.ext hbW) (H2.out.ext hbW) hbW (by omega)
  have HK := Lib.hid (And.intro k1 (And.intro k2 k3))
  clear k1 k2 k3 hsz
  go_wp2
  refine bodyPost_ret (v := .agg #[.bool (decide (0 < L)), .slice a1 L c1, .slice a2 (digs q.den).length c2]) (by simp [results, Tryz.results140, go_sem, z0, z1, z2]) rfl ⟨_, rfl, ⟨.slice a1 L c1, .slice a2 (digs q.den).length c2, ?_, ?_, ?_⟩, HK.out.2.2⟩
  ·rw [HB.out]
  ·rw [HI.out.1]; exact HK.out.1
  ·rw [HI.out.2.1]; exact HK.out.2.1
set_option maxRecDepth 100000 in
set_option maxHeartbeats 8000000 in
theorem mminus_at (x y : Rat)  (v u : Value) (w : World) (hx : XR w v x) (hy : XR w u y) (l1 : Sm x) (l2 : Sm y) : Calls Tryz.prog 99 #[v, u] w (XPost w (x + -y)) := by
 obtain ⟨a1, c1, a2, c2, rfl, _, _⟩ := hx.open_
 obtain ⟨a3, c3, a4, c4, rfl, _, _⟩ := hy.open_
 have HX := Lib.hid hx
 have HY := Lib.hid hy
 clear hx hy
 generalize decide (x.num < 0) = bx at *
 generalize (digs x.num.natAbs).length = m1 at *
 generalize (digs x.den).length = m2 at *
 generalize decide (y.num < 0) = by' at *
 generalize (digs y.num.natAbs).length = m3 at *
 generalize (digs y.den).length = m4 at *
 go_enter Tryz.func99, Tryz.ntmps99
 go_upto_region 1 with (fail)
 refine wp_box3r fun w1' hsz hbW hA0 hA1 hC hF => ?_
 clear hsz
 have HB_x := Lib.hid hA0
 have HB_y := Lib.hid hA1
 have HB_o := Lib.hid hC
 have HF_o := Lib.hid hF
 have HW := Lib.hid hbW
 clear hbW hA0 hA1 hC hF
 replace HX := Lib.hid (HX.out.ext HW.out)
 replace HY := Lib.hid (HY.out.ext HW.out)
 have c_x_0 : w1'.cell? ⟨w.heap.size, 0, none⟩ = some (.bool bx) := HB_x.out.2 0
 have c_x_1 : w1'.cell? ⟨w.heap.size, 1, none⟩ = some (.slice a1 m1 c1) := HB_x.out.2 1
 have c_x_2 : w1'.cell? ⟨w.heap.size, 2, none⟩ = some (.slice a2 m2 c2) := HB_x.out.2 2
 have c_y_0 : w1'.cell? ⟨(w.heap.size + 1), 0, none⟩ = some (.bool by') := HB_y.out.2 0
 have c_y_1 : w1'.cell? ⟨(w.heap.size + 1), 1, none⟩ = some (.slice a3 m3 c3) := HB_y.out.2 1
 have c_y_2 : w1'.cell? ⟨(w.heap.size + 1), 2, none⟩ = some (.slice a4 m4 c4) := HB_y.out.2 2
 refine Grow.wp_region_grow 4 [TP.eq (.agg #[.bool bx, .slice a1 m1 c1, .slice a2 m2 c2]), TP.eq (.agg #[.bool by', .slice a3 m3 c3, .slice a4 m4 c4]), TP.xq (-y), TP.xq (x + -y)] [[], [], [1], [0, 2]] (by kernel_rfl) (by kernel_rfl) ⟨?o0m, ?o1m, ?o2m, ?o3m, trivial⟩ ?_
 case o0m =>
  intro w' hb
  have c_x_0' := zzc hb c_x_0
  have c_x_1' := zzc hb c_x_1
  have c_x_2' := zzc hb c_x_2
  show wpList _ _ _ _ _ _
  go_wp2
  exact ⟨rfl, Below.refl _ _, rfl⟩
 case o1m =>
  intro w' hb
  have c_y_0' := zzc hb c_y_0
  have c_y_1' := zzc hb c_y_1
  have c_y_2' := zzc hb c_y_2
  show wpList _ _ _ _ _ _
  go_wp2
  exact ⟨rfl, Below.refl _ _, rfl⟩
 case o2m =>
  intro w' hb v1 hv1
  obtain rfl : v1 = _ := hv1
  show wpList _ _ _ _ _ _
  simp only [Grow.dstOf, zz1, zz2, zz3, zz4, Act.put, zz5, zz6, zz7]
  go_wp2_with fail
  refine (xminus_at y _ w' (HY.out.ext hb)).mono ?_
  rintro e wz ⟨vz, rfl, hxz, hbz⟩
  go_wp2
  exact ⟨hxz, hbz, rfl⟩
 case o3m =>
  intro w' hb v1 hv1 v2 hv2
  obtain rfl : v1 = _ := hv1
  have hv2' : XR w' v2 (-y) := hv2
  clear hv2
  show wpList _ _ _ _ _ _
  simp only [Grow.dstOf, zz1, zz2, zz3, zz4, Act.put, zz5, zz6, zz7]
  go_wp2_with fail
  refine (xplus_at x (-y) _ _ w' (HX.out.ext hb) hv2' l1.1 l1.2 l2.neg.1 l2.neg.2).mono ?_
  rintro e wz ⟨vz, rfl, hxz, hbz⟩
  go_wp2
  exact ⟨hxz, hbz, rfl⟩
 intro w2' hbz u0 hu0 u1 hu1 u2 hu2 u3 hu3
 have hv : XR w2' u3 (x + -y) := hu3
 clear hu0 hu1 hu2 hu3
 replace HB_x := Lib.hid (HB_x.out.ext hbz)
 replace HB_y := Lib.hid (HB_y.out.ext hbz)
 replace HF_o := Lib.hid (HF_o.out.ext HB_o.out hbz)
 replace HB_o := Lib.hid (HB_o.out.ext hbz)
 replace HX := Lib.hid (HX.out.ext hbz)
 replace HY := Lib.hid (HY.out.ext hbz)
 replace HW := Lib.hid (ext_trans HW.out hbz)
 clear c_x_0 c_x_1 c_x_2 c_y_0 c_y_1 c_y_2
 clear hbz
 obtain ⟨p1, g1, p2, g2, rfl, k1, k2⟩ := hv.open_
 obtain ⟨z, hz⟩ : ∃ z : Rat, x + -y = z := ⟨_, rfl⟩
 rw [hz] at k1 k2 ⊢
 have HZ := Lib.hid hz
 clear hv hz
 have c_o_0 : w2'.cell? ⟨(w.heap.size + 2), 0, none⟩ = some (.bool false) := HB_o.out.2 0
 have c_o_1 : w2'.cell? ⟨(w.heap.size + 2), 1, none⟩ = some (.slice none 0 0) := HB_o.out.2 1
 have c_o_2 : w2'.cell? ⟨(w.heap.size + 2), 2, none⟩ = some (.slice none 0 0) := HB_o.out.2 2
 have f_o_0 := HF_o.out 0
 have f_o_1 := HF_o.out 1
 have f_o_2 := HF_o.out 2
 obtain ⟨n1, n2, n3, z0, z1, z2⟩ := res3 (decide (z.num < 0)) HB_o.out k1 k2 HW.out (by omega)
 have HK := Lib.hid (And.intro n1 (And.intro n2 n3))
 clear n1 n2 n3 k1 k2
 show wpList _ _ _ _ _ _
 simp only [Act.put, zz5, zz6, zz7]
 go_wp2
 exact bodyPost_ret (v := .agg #[.bool (decide (z.num < 0)), .slice p1 (digs z.num.natAbs).length g1, .slice p2 (digs z.den).length g2]) (by simp [results, Tryz.results99, go_sem, z0, z1, z2]) rfl ⟨_, rfl, (by rw [HZ.out]; exact ⟨_, _, rfl, HK.out.1, HK.out.2.1⟩), HK.out.2.2⟩
set_option maxRecDepth 100000 in
set_option maxHeartbeats 8000000 in
theorem mover_at (x y : Rat) (h0 : y ≠ 0) (v u : Value) (w : World) (hx : XR w v x) (hy : XR w u y) (l1 : Sm x) (l2 : Sm y) : Calls Tryz.prog 79 #[v, u] w (XPost w (x * y⁻¹)) := by
 obtain ⟨a1, c1, a2, c2, rfl, _, _⟩ := hx.open_
 obtain ⟨a3, c3, a4, c4, rfl, _, _⟩ := hy.open_
 have HX := Lib.hid hx
 have HY := Lib.hid hy
 clear hx hy
 generalize decide (x.num < 0) = bx at *
 generalize (digs x.num.natAbs).length = m1 at *
 generalize (digs x.den).length = m2 at *
 generalize decide (y.num < 0) = by' at *
 generalize (digs y.num.natAbs).length = m3 at *
 generalize (digs y.den).length = m4 at *
 go_enter Tryz.func79, Tryz.ntmps79
 go_upto_region 1 with (fail)
 refine wp_box3r fun w1' hsz hbW hA0 hA1 hC hF => ?_
 clear hsz
 have HB_x := Lib.hid hA0
 have HB_y := Lib.hid hA1
 have HB_o := Lib.hid hC
 have HF_o := Lib.hid hF
 have HW := Lib.hid hbW
 clear hbW hA0 hA1 hC hF
 replace HX := Lib.hid (HX.out.ext HW.out)
 replace HY := Lib.hid (HY.out.ext HW.out)
 have c_x_0 : w1'.cell? ⟨w.heap.size, 0, none⟩ = some (.bool bx) := HB_x.out.2 0
 have c_x_1 : w1'.cell? ⟨w.heap.size, 1, none⟩ = some (.slice a1 m1 c1) := HB_x.out.2 1
 have c_x_2 : w1'.cell? ⟨w.heap.size, 2, none⟩ = some (.slice a2 m2 c2) := HB_x.out.2 2
 have c_y_0 : w1'.cell? ⟨(w.heap.size + 1), 0, none⟩ = some (.bool by') := HB_y.out.2 0
 have c_y_1 : w1'.cell? ⟨(w.heap.size + 1), 1, none⟩ = some (.slice a3 m3 c3) := HB_y.out.2 1
 have c_y_2 : w1'.cell? ⟨(w.heap.size + 1), 2, none⟩ = some (.slice a4 m4 c4) := HB_y.out.2 2
 refine Grow.wp_region_grow 4 [TP.eq (.agg #[.bool bx, .slice a1 m1 c1, .slice a2 m2 c2]), TP.eq (.agg #[.bool by', .slice a3 m3 c3, .slice a4 m4 c4]), TP.xq (y⁻¹), TP.xq (x * y⁻¹)] [[], [], [1], [0, 2]] (by kernel_rfl) (by kernel_rfl) ⟨?o0m, ?o1m, ?o2m, ?o3m, trivial⟩ ?_
 case o0m =>
  intro w' hb
  have c_x_0' := zzc hb c_x_0
  have c_x_1' := zzc hb c_x_1
  have c_x_2' := zzc hb c_x_2
  show wpList _ _ _ _ _ _
  go_wp2
  exact ⟨rfl, Below.refl _ _, rfl⟩
 case o1m =>
  intro w' hb
  have c_y_0' := zzc hb c_y_0
  have c_y_1' := zzc hb c_y_1
  have c_y_2' := zzc hb c_y_2
  show wpList _ _ _ _ _ _
  go_wp2
  exact ⟨rfl, Below.refl _ _, rfl⟩
 case o2m =>
  intro w' hb v1 hv1
  obtain rfl : v1 = _ := hv1
  show wpList _ _ _ _ _ _
  simp only [Grow.dstOf, zz1, zz2, zz3, zz4, Act.put, zz5, zz6, zz7]
  go_wp2_with fail
  refine (turned_at y _ w' (HY.out.ext hb) (fun e => h0 (Rat.num_eq_zero.1 e))).mono ?_
  rintro e wz ⟨vz, rfl, hxz, hbz⟩
  go_wp2
  exact ⟨hxz, hbz, rfl⟩
 case o3m =>
  intro w' hb v1 hv1 v2 hv2
  obtain rfl : v1 = _ := hv1
  have hv2' : XR w' v2 (y⁻¹) := hv2
  clear hv2
  show wpList _ _ _ _ _ _
  simp only [Grow.dstOf, zz1, zz2, zz3, zz4, Act.put, zz5, zz6, zz7]
  go_wp2_with fail
  refine (xtimes_at x y⁻¹ _ _ w' (HX.out.ext hb) hv2' l1.1 l1.2 (l2.inv h0).1 (l2.inv h0).2).mono ?_
  rintro e wz ⟨vz, rfl, hxz, hbz⟩
  go_wp2
  exact ⟨hxz, hbz, rfl⟩
 intro w2' hbz u0 hu0 u1 hu1 u2 hu2 u3 hu3
 have hv : XR w2' u3 (x * y⁻¹) := hu3
 clear hu0 hu1 hu2 hu3
 replace HB_x := Lib.hid (HB_x.out.ext hbz)
 replace HB_y := Lib.hid (HB_y.out.ext hbz)
 replace HF_o := Lib.hid (HF_o.out.ext HB_o.out hbz)
 replace HB_o := Lib.hid (HB_o.out.ext hbz)
 replace HX := Lib.hid (HX.out.ext hbz)
 replace HY := Lib.hid (HY.out.ext hbz)
 replace HW := Lib.hid (ext_trans HW.out hbz)
 clear c_x_0 c_x_1 c_x_2 c_y_0 c_y_1 c_y_2
 clear hbz
 obtain ⟨p1, g1, p2, g2, rfl, k1, k2⟩ := hv.open_
 obtain ⟨z, hz⟩ : ∃ z : Rat, x * y⁻¹ = z := ⟨_, rfl⟩
 rw [hz] at k1 k2 ⊢
 have HZ := Lib.hid hz
 clear hv hz
 have c_o_0 : w2'.cell? ⟨(w.heap.size + 2), 0, none⟩ = some (.bool false) := HB_o.out.2 0
 have c_o_1 : w2'.cell? ⟨(w.heap.size + 2), 1, none⟩ = some (.slice none 0 0) := HB_o.out.2 1
 have c_o_2 : w2'.cell? ⟨(w.heap.size + 2), 2, none⟩ = some (.slice none 0 0) := HB_o.out.2 2
 have f_o_0 := HF_o.out 0
 have f_o_1 := HF_o.out 1
 have f_o_2 := HF_o.out 2
 obtain ⟨n1, n2, n3, z0, z1, z2⟩ := res3 (decide (z.num < 0)) HB_o.out k1 k2 HW.out (by omega)
 have HK := Lib.hid (And.intro n1 (And.intro n2 n3))
 clear n1 n2 n3 k1 k2
 show wpList _ _ _ _ _ _
 simp only [Act.put, zz5, zz6, zz7]
 go_wp2
 exact bodyPost_ret (v := .agg #[.bool (decide (z.num < 0)), .slice p1 (digs z.num.natAbs).length g1, .slice p2 (digs z.den).length g2]) (by simp [results, Tryz.results79, go_sem, z0, z1, z2]) rfl ⟨_, rfl, (by rw [HZ.out]; exact ⟨_, _, rfl, HK.out.1, HK.out.2.1⟩), HK.out.2.2⟩
theorem mminus_is (x y q : Rat) (hq : x - y = q) (v u : Value) (w : World) (hx : XR w v x) (hy : XR w u y) (l1 : Sm x) (l2 : Sm y) : Calls Tryz.prog 99 #[v, u] w (XPost w q) := by
 subst hq; rw [Rat.sub_eq_add_neg]; exact mminus_at x y v u w hx hy l1 l2
theorem mover_is (x y q : Rat) (hq : x / y = q) (h0 : y ≠ 0) (v u : Value) (w : World) (hx : XR w v x) (hy : XR w u y) (l1 : Sm x) (l2 : Sm y) : Calls Tryz.prog 79 #[v, u] w (XPost w q) := by
 subst hq; rw [Rat.div_def]; exact mover_at x y h0 v u w hx hy l1 l2
theorem xtimes_sm (x y q : Rat) (hq : x * y = q) (v u : Value) (w : World) (hx : XR w v x) (hy : XR w u y) (l1 : Sm x) (l2 : Sm y) : Calls Tryz.prog 100 #[v, u] w (XPost w q) := by
 subst hq; exact xtimes_at x y v u w hx hy l1.1 l1.2 l2.1 l2.2
end Nm
end Go.Proofs.YtilolnjbpokdnaaGreatDoor
