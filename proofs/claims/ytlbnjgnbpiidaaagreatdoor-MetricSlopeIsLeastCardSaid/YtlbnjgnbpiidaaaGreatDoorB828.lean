/- Arithmetic of package metric: within, whole, times, minus, over; the number with the other sign. Printed by gen_meta.py. Plain: the moments of pairs: faults, sums in their order, and how great they are. No program stands in it. Plain: moments as texts and as numbers: their faults, their sizes. No program stands in it. -/
import Derived.Test.YtlbnjgnbpiidaaaGreatDoorB811
import Derived.Test.YtlbnjgnbpiidaaaGreatDoorB812
import Derived.Test.YtlbnjgnbpiidaaaGreatDoorB827
namespace Go.Proofs.YtlbnjgnbpiidaaaGreatDoor
open Go.RowKit
namespace Nm
def TP.xq (q : Rat) : TP := ⟨fun w v => XR w v q, fun _ _ _ hb h => h.ext hb⟩
/-- a number that the program can reckon with -/
def Sm (q : Rat) : Prop := wlen q.num.natAbs ≤ 100000000 ∧ wlen q.den ≤ 100000000
theorem Ln.sm {a b : Nat} {q : Rat} (h : Ln a b q) (ha : a ≤ 5000) (hb : b ≤ 5000) : Sm q := by
 have := Ln.small h ha hb
 exact ⟨by omega, by omega⟩
theorem mwithin_yes (n low high : Int) (h1 : low ≤ n) (h2 : n ≤ high) (w : World) : Calls Tryz.prog 64 #[.int .i64 n, .int .i64 low, .int .i64 high] w fun e w' => e = .returned (.bool true) ∧ w = w' := by
 go_enter Tryz.func64, Tryz.ntmps64
 go_wp2
 go_ret
 exact ⟨rfl, rfl⟩
theorem mwithin_no (n low high : Int) (h : n < low ∨ high < n) (w : World) : Calls Tryz.prog 64 #[.int .i64 n, .int .i64 low, .int .i64 high] w fun e w' => e = .returned (.bool false) ∧ w = w' := by
 by_cases h1 : n < low
 ·clear h
  go_enter Tryz.func64, Tryz.ntmps64
  go_wp2
  go_ret
  exact ⟨rfl, rfl⟩
 ·have h2 : decide (n ≤ high) = false := decide_eq_false (by omega)
  have h3 : low ≤ n := by omega
  clear h h1
  go_enter Tryz.func64, Tryz.ntmps64
  go_wp2
  go_ret
  exact ⟨rfl, rfl⟩
theorem neg_facts (q : Rat) : (-q).num.natAbs = q.num.natAbs ∧ (-q).den = q.den ∧ decide ((-q).num < 0) = decide (0 < q.num) := by
 rw [Rat.neg_num, Rat.neg_den]
 refine ⟨by omega, rfl, ?_⟩
 rw [Bool.eq_iff_iff, decide_eq_true_eq, decide_eq_true_eq]; omega
theorem Sm.neg {q : Rat} (h : Sm q) : Sm (-q) := by
 obtain ⟨h1, h2, _⟩ := neg_facts q
 unfold Sm; rw [h1, h2]; exact h
theorem Sm.inv {q : Rat} (h : Sm q) (h0 : q ≠ 0) : Sm q⁻¹ := by
 obtain ⟨f1, f2, _, _⟩ := inv_facts (fun e => h0 (Rat.num_eq_zero.1 e))
 unfold Sm; rw [f1, f2]; exact ⟨h.2, h.1⟩
set_option maxHeartbeats 4000000 in
theorem xminus_at (q : Rat) (v : Value) (w : World) (hx : XR w v q) : Calls Tryz.prog 57 #[v] w (XPost w (-q)) := by
 obtain ⟨a1, c1, a2, c2, rfl, h1, h2⟩ := hx.open_
 have H1 := Lib.hid h1
 have H2 := Lib.hid h2
 have HI := Lib.hid (neg_facts q)
 have hwz := @wlen_eq_zero q.num.natAbs
 unfold wlen at hwz
 have HP : Hid (∀ b : Bool, (b = true ↔ 0 < q.num) → decide ((-q).num < 0) = b) := Lib.hid fun b hb => by rw [HI.out.2.2, Bool.eq_iff_iff, decide_eq_true_eq]; exact hb.symm
 clear h1 h2 hx
 by_cases hb : q.num < 0
 ·have HB : Hid (decide ((-q).num < 0) = false) := Lib.hid (HP.out false (by simp; omega))
  rw [decide_eq_true hb]
  clear hb hwz HP
  go_enter Tryz.func57, Tryz.ntmps57
  go_upto_region 1 with (fail)
  refine wp_box2r fun W hsz hbW hA hC hF => ?_
  obtain ⟨_, hA2⟩ := id hA
  obtain ⟨r0, r1, r2⟩ := boxX hC
  have g0 := hF 0
  have g1 := hF 1
  have g2 := hF 2
  obtain ⟨k1, k2, k3, z0, z1, z2⟩ := res3 false hC (H1.out.ext hbW) (H2.out.ext hbW) hbW (by omega)
  have HK := Lib.hid (And.intro k1 (And.intro k2 k3))
  clear k1 k2 k3 hsz
  go_wp2
  refine bodyPost_ret (v := .agg #[.bool false, .slice a1 (digs q.num.natAbs).length c1, .slice a2 (digs q.den).length c2]) (by simp [results, Tryz.results57, go_sem, z0, z1, z2]) rfl ⟨_, rfl, ⟨.slice a1 (digs q.num.natAbs).length c1, .slice a2 (digs q.den).length c2, ?_, ?_, ?_⟩, HK.out.2.2⟩
  ·rw [HB.out]
  ·rw [HI.out.1]; exact HK.out.1
  ·rw [HI.out.2.1]; exact HK.out.2.1
 ·obtain ⟨L, hL⟩ : ∃ L, (digs q.num.natAbs).length = L := ⟨_, rfl⟩
  have HB : Hid (decide ((-q).num < 0) = decide (0 < L)) := Lib.hid (by
   refine HP.out _ ?_
   rw [decide_eq_true_eq, ← hL]; omega)
  have HL := Lib.hid hL
  rw [decide_eq_false hb]
  rw [hL] at hwz ⊢
  rw [hL] at H1
  clear hb hwz HP hL
  go_enter Tryz.func57, Tryz.ntmps57
  go_upto_region 1 with (fail)
  refine wp_box2r fun W hsz hbW hA hC hF => ?_
  obtain ⟨_, hA2⟩ := id hA
  obtain ⟨r0, r1, r2⟩ := boxX hC
  have g0 := hF 0
  have g1 := hF 1
  have g2 := hF 2
  obtain ⟨k1, k2, k3, z0, z1, z2⟩ := res3 (decide (0 < L)) hC (H1.out.ext hbW) (H2.out.ext hbW) hbW (by omega)
  have HK := Lib.hid (And.intro k1 (And.intro k2 k3))
  clear k1 k2 k3 hsz
  go_wp2
  refine bodyPost_ret (v := .agg #[.bool (decide (0 < L)), .slice a1 L c1, .slice a2 (digs q.den).length c2]) (by simp [results, Tryz.results57, go_sem, z0, z1, z2]) rfl ⟨_, rfl, ⟨.slice a1 L c1, .slice a2 (digs q.den).length c2, ?_, ?_, ?_⟩, HK.out.2.2⟩
  ·rw [HB.out]
  ·rw [HI.out.1]; exact HK.out.1
  ·rw [HI.out.2.1]; exact HK.out.2.1
theorem mwhole_at (n : Int) (h1 : -9223372036854775808 ≤ n) (h2 : n ≤ 9223372036854775807) (w : World) : Calls Tryz.prog 30 #[.int .i64 n] w (XPost w (n : Rat)) := by
 go_enter Tryz.func30, Tryz.ntmps30
 go_upto_region 1 with (fail)
 refine wp_box1r fun W hsz hbW hC hF => ?_
 clear hsz
 go_wp2_with fail
 refine (xratInt_at n h1 h2 _).mono ?_
 rintro e w2 ⟨v, rfl, hx, hb⟩
 obtain ⟨v1, v2, rfl, hn1', hn2'⟩ := hx
 have hn1 : N w2 v1 n.natAbs := hn1'
 have hn2 : N w2 v2 1 := hn2'
 obtain ⟨p1, c5, rfl, _⟩ := hn1.open_
 obtain ⟨p2, c6, rfl, _⟩ := hn2.open_
 clear hn1' hn2'
 rw [show decide ((n : Rat).num < 0) = decide (n < 0) from rfl]
 have hC3 := hC.ext hb
 have hF3 := hF.ext hC hb
 have hbw := ext_trans hbW hb
 have hle : w.heap.size ≤ w.heap.size := Nat.le_refl _
 have g0 := hF3 0
 have g1 := hF3 1
 have g2 := hF3 2
 obtain ⟨r0, r1, r2⟩ := boxX hC3
 obtain ⟨k1, k2, k3, z0, z1, z2⟩ := res3 (decide (n < 0)) hC3 hn1 hn2 hbw hle
 have HK := Lib.hid (And.intro k1 (And.intro k2 k3))
 clear k1 k2 k3
 go_wp2
 exact bodyPost_ret (v := .agg #[.bool (decide (n < 0)), .slice p1 (digs n.natAbs).length c5, .slice p2 (digs 1).length c6]) (by simp [results, Tryz.results30, go_sem, z0, z1, z2]) rfl ⟨_, rfl, ⟨_, _, rfl, HK.out.1, HK.out.2.1⟩, HK.out.2.2⟩
theorem i64_sm {a : Int} (h1 : -9223372036854775808 ≤ a) (h2 : a ≤ 9223372036854775807) : Sm (a : Rat) :=
 Ln.sm (a := 20) (b := 0) (Ln.int (by omega)) (by omega) (by omega)
set_option maxRecDepth 100000 in
set_option maxHeartbeats 8000000 in
theorem mtimes_at (a b : Int) (h1 : -9223372036854775808 ≤ a) (h2 : a ≤ 9223372036854775807) (h3 : -9223372036854775808 ≤ b) (h4 : b ≤ 9223372036854775807) (w : World) : Calls Tryz.prog 36 #[.int .i64 a, .int .i64 b] w (XPost w ((a : Rat) * (b : Rat))) := by
 go_enter Tryz.func36, Tryz.ntmps36
 go_upto_region 1 with (fail)
 refine wp_box1r fun w1' hsz hbW hC hF => ?_
 clear hsz
 have HB_o := Lib.hid hC
 have HF_o := Lib.hid hF
 have HW := Lib.hid hbW
 clear hbW hC hF
 go_wp2_with fail
 refine (mwhole_at a h1 h2 w1').mono ?_
 rintro e w2' ⟨v1, rfl, hv1, hbz⟩
 have HA := Lib.hid hv1
 clear hv1
 replace HF_o := Lib.hid (HF_o.out.ext HB_o.out hbz)
 replace HB_o := Lib.hid (HB_o.out.ext hbz)
 replace HW := Lib.hid (ext_trans HW.out hbz)
 clear hbz
 go_wp2_with fail
 refine (mwhole_at b h3 h4 w2').mono ?_
 rintro e w3' ⟨v2, rfl, hv2, hbz⟩
 have HB := Lib.hid hv2
 clear hv2
 replace HF_o := Lib.hid (HF_o.out.ext HB_o.out hbz)
 replace HB_o := Lib.hid (HB_o.out.ext hbz)
 replace HA := Lib.hid (HA.out.ext hbz)
 replace HW := Lib.hid (ext_trans HW.out hbz)
 clear hbz
 go_wp2_with fail
 refine (xtimes_at (a : Rat) (b : Rat) _ _ w3' HA.out HB.out (i64_sm h1 h2).1 (i64_sm h1 h2).2 (i64_sm h3 h4).1 (i64_sm h3 h4).2).mono ?_
 rintro e w4' ⟨v3, rfl, hv3, hbz⟩
 obtain ⟨p1, g1, p2, g2, rfl, k1, k2⟩ := hv3.open_
 replace HF_o := Lib.hid (HF_o.out.ext HB_o.out hbz)
 replace HB_o := Lib.hid (HB_o.out.ext hbz)
 replace HA := Lib.hid (HA.out.ext hbz)
 replace HB := Lib.hid (HB.out.ext hbz)
 replace HW := Lib.hid (ext_trans HW.out hbz)
 clear hbz
 replace k1 := k1
 obtain ⟨z, hz⟩ : ∃ z : Rat, (a : Rat) * (b : Rat) = z := ⟨_, rfl⟩
 rw [hz] at k1 k2 ⊢
 have HZ := Lib.hid hz
 clear hv3 hz
 have c_o_0 : w4'.cell? ⟨w.heap.size, 0, none⟩ = some (.bool false) := HB_o.out.2 0
 have c_o_1 : w4'.cell? ⟨w.heap.size, 1, none⟩ = some (.slice none 0 0) := HB_o.out.2 1
 have c_o_2 : w4'.cell? ⟨w.heap.size, 2, none⟩ = some (.slice none 0 0) := HB_o.out.2 2
 have f_o_0 := HF_o.out 0
 have f_o_1 := HF_o.out 1
 have f_o_2 := HF_o.out 2
 obtain ⟨n1, n2, n3, z0, z1, z2⟩ := res3 (decide (z.num < 0)) HB_o.out k1 k2 HW.out (by omega)
 have HK := Lib.hid (And.intro n1 (And.intro n2 n3))
 clear n1 n2 n3 k1 k2
 go_wp2
 exact bodyPost_ret (v := .agg #[.bool (decide (z.num < 0)), .slice p1 (digs z.num.natAbs).length g1, .slice p2 (digs z.den).length g2]) (by simp [results, Tryz.results36, go_sem, z0, z1, z2]) rfl ⟨_, rfl, (by rw [HZ.out]; exact ⟨_, _, rfl, HK.out.1, HK.out.2.1⟩), HK.out.2.2⟩
set_option maxRecDepth 100000 in
set_option maxHeartbeats 8000000 in
theorem mminus_at (x y : Rat)  (v u : Value) (w : World) (hx : XR w v x) (hy : XR w u y) (l1 : Sm x) (l2 : Sm y) : Calls Tryz.prog 32 #[v, u] w (XPost w (x + -y)) := by
 obtain ⟨a1, c1, a2, c2, rfl, _, _⟩ := hx.open_
 obtain ⟨a3, c3, a4, c4, rfl, _, _⟩ := hy.open_
 have HX := Lib.hid hx
 have HY := Lib.hid hy
 clear hx hy
 generalize decide (x.num < 0) = bx at *
 generalize (digs x.num.natAbs).length = m1 at *
 generalize (digs x.den).length = m2 at *
 generalize decide (y.num < 0) = by' at *
 generalize (digs y.num.natAbs).length = m3 at *
 generalize (digs y.den).length = m4 at *
 go_enter Tryz.func32, Tryz.ntmps32
 go_upto_region 1 with (fail)
 refine wp_box3r fun w1' hsz hbW hA0 hA1 hC hF => ?_
 clear hsz
 have HB_x := Lib.hid hA0
 have HB_y := Lib.hid hA1
 have HB_o := Lib.hid hC
 have HF_o := Lib.hid hF
 have HW := Lib.hid hbW
 clear hbW hA0 hA1 hC hF
 replace HX := Lib.hid (HX.out.ext HW.out)
 replace HY := Lib.hid (HY.out.ext HW.out)
 have c_x_0 : w1'.cell? ⟨w.heap.size, 0, none⟩ = some (.bool bx) := HB_x.out.2 0
 have c_x_1 : w1'.cell? ⟨w.heap.size, 1, none⟩ = some (.slice a1 m1 c1) := HB_x.out.2 1
 have c_x_2 : w1'.cell? ⟨w.heap.size, 2, none⟩ = some (.slice a2 m2 c2) := HB_x.out.2 2
 have c_y_0 : w1'.cell? ⟨(w.heap.size + 1), 0, none⟩ = some (.bool by') := HB_y.out.2 0
 have c_y_1 : w1'.cell? ⟨(w.heap.size + 1), 1, none⟩ = some (.slice a3 m3 c3) := HB_y.out.2 1
 have c_y_2 : w1'.cell? ⟨(w.heap.size + 1), 2, none⟩ = some (.slice a4 m4 c4) := HB_y.out.2 2
 refine Grow.wp_region_grow 4 [TP.eq (.agg #[.bool bx, .slice a1 m1 c1, .slice a2 m2 c2]), TP.eq (.agg #[.bool by', .slice a3 m3 c3, .slice a4 m4 c4]), TP.xq (-y), TP.xq (x + -y)] [[], [], [1], [0, 2]] (by kernel_rfl) (by kernel_rfl) ⟨?o0m, ?o1m, ?o2m, ?o3m, trivial⟩ ?_
 case o0m =>
  intro w' hb
  have c_x_0' := zzc hb c_x_0
  have c_x_1' := zzc hb c_x_1
  have c_x_2' := zzc hb c_x_2
  show wpList _ _ _ _ _ _
  go_wp2
  exact ⟨rfl, Below.refl _ _, rfl⟩
 case o1m =>
  intro w' hb
  have c_y_0' := zzc hb c_y_0
  have c_y_1' := zzc hb c_y_1
  have c_y_2' := zzc hb c_y_2
  show wpList _ _ _ _ _ _
  go_wp2
  exact ⟨rfl, Below.refl _ _, rfl⟩
 case o2m =>
  intro w' hb v1 hv1
  cases hv1
  show wpList _ _ _ _ _ _
  simp only [Grow.dstOf, zzp, Act.put]
  go_wp2_with fail
  refine (xminus_at y _ w' (HY.out.ext hb)).mono ?_
  rintro e wz ⟨vz, rfl, hxz, hbz⟩
  go_wp2
  exact ⟨hxz, hbz, rfl⟩
 case o3m =>
  intro w' hb v1 hv1 v2 hv2
  cases hv1
  have hv2' : XR w' v2 (-y) := hv2
  clear hv2
  show wpList _ _ _ _ _ _
  simp only [Grow.dstOf, zzp, Act.put]
  go_wp2_with fail
  refine (xplus_at x (-y) _ _ w' (HX.out.ext hb) hv2' l1.1 l1.2 l2.neg.1 l2.neg.2).mono ?_
  rintro e wz ⟨vz, rfl, hxz, hbz⟩
  go_wp2
  exact ⟨hxz, hbz, rfl⟩
 intro w2' hbz u0 hu0 u1 hu1 u2 hu2 u3 hu3
 have hv : XR w2' u3 (x + -y) := hu3
 clear hu0 hu1 hu2 hu3
 replace HB_x := Lib.hid (HB_x.out.ext hbz)
 replace HB_y := Lib.hid (HB_y.out.ext hbz)
 replace HF_o := Lib.hid (HF_o.out.ext HB_o.out hbz)
 replace HB_o := Lib.hid (HB_o.out.ext hbz)
 replace HX := Lib.hid (HX.out.ext hbz)
 replace HY := Lib.hid (HY.out.ext hbz)
 replace HW := Lib.hid (ext_trans HW.out hbz)
 clear c_x_0 c_x_1 c_x_2 c_y_0 c_y_1 c_y_2
 clear hbz
 obtain ⟨p1, g1, p2, g2, rfl, k1, k2⟩ := hv.open_
 obtain ⟨z, hz⟩ : ∃ z : Rat, x + -y = z := ⟨_, rfl⟩
 rw [hz] at k1 k2 ⊢
 have HZ := Lib.hid hz
 clear hv hz
 have c_o_0 : w2'.cell? ⟨(w.heap.size + 2), 0, none⟩ = some (.bool false) := HB_o.out.2 0
 have c_o_1 : w2'.cell? ⟨(w.heap.size + 2), 1, none⟩ = some (.slice none 0 0) := HB_o.out.2 1
 have c_o_2 : w2'.cell? ⟨(w.heap.size + 2), 2, none⟩ = some (.slice none 0 0) := HB_o.out.2 2
 have f_o_0 := HF_o.out 0
 have f_o_1 := HF_o.out 1
 have f_o_2 := HF_o.out 2
 obtain ⟨n1, n2, n3, z0, z1, z2⟩ := res3 (decide (z.num < 0)) HB_o.out k1 k2 HW.out (by omega)
 have HK := Lib.hid (And.intro n1 (And.intro n2 n3))
 clear n1 n2 n3 k1 k2
 show wpList _ _ _ _ _ _
 simp only [Act.put, zzp]
 go_wp2
 exact bodyPost_ret (v := .agg #[.bool (decide (z.num < 0)), .slice p1 (digs z.num.natAbs).length g1, .slice p2 (digs z.den).length g2]) (by simp [results, Tryz.results32, go_sem, z0, z1, z2]) rfl ⟨_, rfl, (by rw [HZ.out]; exact ⟨_, _, rfl, HK.out.1, HK.out.2.1⟩), HK.out.2.2⟩
set_option maxRecDepth 100000 in
set_option maxHeartbeats 8000000 in
theorem mover_at (x y : Rat) (h0 : y ≠ 0) (v u : Value) (w : World) (hx : XR w v x) (hy : XR w u y) (l1 : Sm x) (l2 : Sm y) : Calls Tryz.prog 29 #[v, u] w (XPost w (x * y⁻¹)) := by
 obtain ⟨a1, c1, a2, c2, rfl, _, _⟩ := hx.open_
 obtain ⟨a3, c3, a4, c4, rfl, _, _⟩ := hy.open_
 have HX := Lib.hid hx
 have HY := Lib.hid hy
 clear hx hy
 generalize decide (x.num < 0) = bx at *
 generalize (digs x.num.natAbs).length = m1 at *
 generalize (digs x.den).length = m2 at *
 generalize decide (y.num < 0) = by' at *
 generalize (digs y.num.natAbs).length = m3 at *
 generalize (digs y.den).length = m4 at *
 go_enter Tryz.func29, Tryz.ntmps29
 go_upto_region 1 with (fail)
 refine wp_box3r fun w1' hsz hbW hA0 hA1 hC hF => ?_
 clear hsz
 have HB_x := Lib.hid hA0
 have HB_y := Lib.hid hA1
 have HB_o := Lib.hid hC
 have HF_o := Lib.hid hF
 have HW := Lib.hid hbW
 clear hbW hA0 hA1 hC hF
 replace HX := Lib.hid (HX.out.ext HW.out)
 replace HY := Lib.hid (HY.out.ext HW.out)
 have c_x_0 : w1'.cell? ⟨w.heap.size, 0, none⟩ = some (.bool bx) := HB_x.out.2 0
 have c_x_1 : w1'.cell? ⟨w.heap.size, 1, none⟩ = some (.slice a1 m1 c1) := HB_x.out.2 1
 have c_x_2 : w1'.cell? ⟨w.heap.size, 2, none⟩ = some (.slice a2 m2 c2) := HB_x.out.2 2
 have c_y_0 : w1'.cell? ⟨(w.heap.size + 1), 0, none⟩ = some (.bool by') := HB_y.out.2 0
 have c_y_1 : w1'.cell? ⟨(w.heap.size + 1), 1, none⟩ = some (.slice a3 m3 c3) := HB_y.out.2 1
 have c_y_2 : w1'.cell? ⟨(w.heap.size + 1), 2, none⟩ = some (.slice a4 m4 c4) := HB_y.out.2 2
 refine Grow.wp_region_grow 4 [TP.eq (.agg #[.bool bx, .slice a1 m1 c1, .slice a2 m2 c2]), TP.eq (.agg #[.bool by', .slice a3 m3 c3, .slice a4 m4 c4]), TP.xq (y⁻¹), TP.xq (x * y⁻¹)] [[], [], [1], [0, 2]] (by kernel_rfl) (by kernel_rfl) ⟨?o0m, ?o1m, ?o2m, ?o3m, trivial⟩ ?_
 case o0m =>
  intro w' hb
  have c_x_0' := zzc hb c_x_0
  have c_x_1' := zzc hb c_x_1
  have c_x_2' := zzc hb c_x_2
  show wpList _ _ _ _ _ _
  go_wp2
  exact ⟨rfl, Below.refl _ _, rfl⟩
 case o1m =>
  intro w' hb
  have c_y_0' := zzc hb c_y_0
  have c_y_1' := zzc hb c_y_1
  have c_y_2' := zzc hb c_y_2
  show wpList _ _ _ _ _ _
  go_wp2
  exact ⟨rfl, Below.refl _ _, rfl⟩
 case o2m =>
  intro w' hb v1 hv1
  cases hv1
  show wpList _ _ _ _ _ _
  simp only [Grow.dstOf, zzp, Act.put]
  go_wp2_with fail
  refine (turned_at y _ w' (HY.out.ext hb) (fun e => h0 (Rat.num_eq_zero.1 e))).mono ?_
  rintro e wz ⟨vz, rfl, hxz, hbz⟩
  go_wp2
  exact ⟨hxz, hbz, rfl⟩
 case o3m =>
  intro w' hb v1 hv1 v2 hv2
  cases hv1
  have hv2' : XR w' v2 (y⁻¹) := hv2
  clear hv2
  show wpList _ _ _ _ _ _
  simp only [Grow.dstOf, zzp, Act.put]
  go_wp2_with fail
  refine (xtimes_at x y⁻¹ _ _ w' (HX.out.ext hb) hv2' l1.1 l1.2 (l2.inv h0).1 (l2.inv h0).2).mono ?_
  rintro e wz ⟨vz, rfl, hxz, hbz⟩
  go_wp2
  exact ⟨hxz, hbz, rfl⟩
 intro w2' hbz u0 hu0 u1 hu1 u2 hu2 u3 hu3
 have hv : XR w2' u3 (x * y⁻¹) := hu3
 clear hu0 hu1 hu2 hu3
 replace HB_x := Lib.hid (HB_x.out.ext hbz)
 replace HB_y := Lib.hid (HB_y.out.ext hbz)
 replace HF_o := Lib.hid (HF_o.out.ext HB_o.out hbz)
 replace HB_o := Lib.hid (HB_o.out.ext hbz)
 replace HX := Lib.hid (HX.out.ext hbz)
 replace HY := Lib.hid (HY.out.ext hbz)
 replace HW := Lib.hid (ext_trans HW.out hbz)
 clear c_x_0 c_x_1 c_x_2 c_y_0 c_y_1 c_y_2
 clear hbz
 obtain ⟨p1, g1, p2, g2, rfl, k1, k2⟩ := hv.open_
 obtain ⟨z, hz⟩ : ∃ z : Rat, x * y⁻¹ = z := ⟨_, rfl⟩
 rw [hz] at k1 k2 ⊢
 have HZ := Lib.hid hz
 clear hv hz
 have c_o_0 : w2'.cell? ⟨(w.heap.size + 2), 0, none⟩ = some (.bool false) := HB_o.out.2 0
 have c_o_1 : w2'.cell? ⟨(w.heap.size + 2), 1, none⟩ = some (.slice none 0 0) := HB_o.out.2 1
 have c_o_2 : w2'.cell? ⟨(w.heap.size + 2), 2, none⟩ = some (.slice none 0 0) := HB_o.out.2 2
 have f_o_0 := HF_o.out 0
 have f_o_1 := HF_o.out 1
 have f_o_2 := HF_o.out 2
 obtain ⟨n1, n2, n3, z0, z1, z2⟩ := res3 (decide (z.num < 0)) HB_o.out k1 k2 HW.out (by omega)
 have HK := Lib.hid (And.intro n1 (And.intro n2 n3))
 clear n1 n2 n3 k1 k2
 show wpList _ _ _ _ _ _
 simp only [Act.put, zzp]
 go_wp2
 exact bodyPost_ret (v := .agg #[.bool (decide (z.num < 0)), .slice p1 (digs z.num.natAbs).length g1, .slice p2 (digs z.den).length g2]) (by simp [results, Tryz.results29, go_sem, z0, z1, z2]) rfl ⟨_, rfl, (by rw [HZ.out]; exact ⟨_, _, rfl, HK.out.1, HK.out.2.1⟩), HK.out.2.2⟩
theorem mwhole_is (z : Int) (q : Rat) (hq : (z : Rat) = q) (h1 : -9223372036854775808 ≤ z) (h2 : z ≤ 9223372036854775807) (w : World) : Calls Tryz.prog 30 #[.int .i64 z] w (XPost w q) := by
 subst hq; exact mwhole_at z h1 h2 w
theorem mtimes_is (a b : Int) (q : Rat) (hq : (a : Rat) * (b : Rat) = q) (h1 : -9223372036854775808 ≤ a) (h2 : a ≤ 9223372036854775807) (h3 : -9223372036854775808 ≤ b) (h4 : b ≤ 9223372036854775807) (w : World) : Calls Tryz.prog 36 #[.int .i64 a, .int .i64 b] w (XPost w q) := by
 subst hq; exact mtimes_at a b h1 h2 h3 h4 w
theorem mminus_is (x y q : Rat) (hq : x - y = q) (v u : Value) (w : World) (hx : XR w v x) (hy : XR w u y) (l1 : Sm x) (l2 : Sm y) : Calls Tryz.prog 32 #[v, u] w (XPost w q) := by
 subst hq; rw [Rat.sub_eq_add_neg]; exact mminus_at x y v u w hx hy l1 l2
theorem mover_is (x y q : Rat) (hq : x / y = q) (h0 : y ≠ 0) (v u : Value) (w : World) (hx : XR w v x) (hy : XR w u y) (l1 : Sm x) (l2 : Sm y) : Calls Tryz.prog 29 #[v, u] w (XPost w q) := by
 subst hq; rw [Rat.div_def]; exact mover_at x y h0 v u w hx hy l1 l2
theorem xtimes_sm (x y q : Rat) (hq : x * y = q) (v u : Value) (w : World) (hx : XR w v x) (hy : XR w u y) (l1 : Sm x) (l2 : Sm y) : Calls Tryz.prog 33 #[v, u] w (XPost w q) := by
 subst hq; exact xtimes_at x y v u w hx hy l1.1 l1.2 l2.1 l2.2
theorem xplus_sm (x y q : Rat) (hq : x + y = q) (v u : Value) (w : World) (hx : XR w v x) (hy : XR w u y) (l1 : Sm x) (l2 : Sm y) : Calls Tryz.prog 34 #[v, u] w (XPost w q) := by
 subst hq; exact xplus_at x y v u w hx hy l1.1 l1.2 l2.1 l2.2
end Nm
end Go.Proofs.YtlbnjgnbpiidaaaGreatDoor
namespace Go.Proofs.YtlbnjgnbpiidaaaGreatDoor
open Go.RowKit
namespace Nm
/-- a pair of outcomes -/
structure PX where
  x : Int
  y : Int
def okX (x : Int) : Bool := decide (-20000000000000000 ≤ x) && decide (x ≤ 20000000000000000)
theorem okX_iff {x : Int} : okX x = true ↔ -20000000000000000 ≤ x ∧ x ≤ 20000000000000000 := by unfold okX; simp
def okP (p : PX) : Bool := okX p.x && okX p.y
theorem okP_iff {p : PX} : okP p = true ↔ (-20000000000000000 ≤ p.x ∧ p.x ≤ 20000000000000000) ∧ -20000000000000000 ≤ p.y ∧ p.y ≤ 20000000000000000 := by
  unfold okP; rw [Bool.and_eq_true, okX_iff, okX_iff]
/-- five sums -/
structure M5 where
  x : Int
  y : Int
  xx : Int
  yy : Int
  xy : Int
def m5z : M5 := ⟨0, 0, 0, 0, 0⟩
def m5s (m : M5) (p : PX) : M5 := ⟨m.x + p.x, m.y + p.y, m.xx + p.x * p.x, m.yy + p.y * p.y, m.xy + p.x * p.y⟩
/-- the sums of k pairs that are right -/
structure M5Ok (k : Nat) (m : M5) : Prop where
  x : m.x.natAbs ≤ 20000000000000000 * k
  y : m.y.natAbs ≤ 20000000000000000 * k
  xx : m.xx.natAbs ≤ 400000000000000000000000000000000 * k
  yy : m.yy.natAbs ≤ 400000000000000000000000000000000 * k
  xy : m.xy.natAbs ≤ 400000000000000000000000000000000 * k
theorem M5Ok.zero : M5Ok 0 m5z := ⟨Nat.le_refl _, Nat.le_refl _, Nat.le_refl _, Nat.le_refl _, Nat.le_refl _⟩
theorem mul_b {x y : Int} (hx : x.natAbs ≤ 20000000000000000) (hy : y.natAbs ≤ 20000000000000000) : (x * y).natAbs ≤ 400000000000000000000000000000000 := by
  rw [Int.natAbs_mul]; exact Nat.mul_le_mul hx hy
theorem M5Ok.step {k : Nat} {m : M5} (h : M5Ok k m) {p : PX} (hp : okP p = true) : M5Ok (k + 1) (m5s m p) := by
  have hb := okP_iff.1 hp
  have hx : p.x.natAbs ≤ 20000000000000000 := by omega
  have hy : p.y.natAbs ≤ 20000000000000000 := by omega
  obtain ⟨h1, h2, h3, h4, h5⟩ := h
  have e : ∀ (a b : Int) (B : Nat), a.natAbs ≤ B * k → b.natAbs ≤ B → (a + b).natAbs ≤ B * (k + 1) := fun a b B ha hb' => by
    rw [Nat.mul_succ]
    exact Nat.le_trans (Int.natAbs_add_le a b) (Nat.add_le_add ha hb')
  exact ⟨e _ _ _ h1 hx, e _ _ _ h2 hy, e _ _ _ h3 (mul_b hx hx), e _ _ _ h4 (mul_b hy hy), e _ _ _ h5 (mul_b hx hy)⟩
theorem int_ln {z : Int} (h : z.natAbs ≤ 400000000000000000000000000000000 * 20000) : Ln 40 0 (z : Rat) := Ln.int (Nat.le_trans h (by decide))
/-- all five are whole numbers of few digits -/
structure M5Ln (m : M5) : Prop where
  x : Ln 40 0 (m.x : Rat)
  y : Ln 40 0 (m.y : Rat)
  xx : Ln 40 0 (m.xx : Rat)
  yy : Ln 40 0 (m.yy : Rat)
  xy : Ln 40 0 (m.xy : Rat)
theorem M5Ok.ln {k : Nat} {m : M5} (h : M5Ok k m) (hk : k ≤ 20000) : M5Ln m := by
  obtain ⟨h1, h2, h3, h4, h5⟩ := h
  have e : ∀ {B : Nat} {z : Int}, z.natAbs ≤ B * k → B ≤ 400000000000000000000000000000000 → Ln 40 0 (z : Rat) := fun hz hB => int_ln (Nat.le_trans hz (Nat.mul_le_mul hB hk))
  exact ⟨e h1 (by decide), e h2 (by decide), e h3 (by decide), e h4 (by decide), e h5 (by decide)⟩
theorem Ln40.fits {q : Rat} (h : Ln 40 0 q) : Fits q := Ln.fits h (by omega) (by omega)
theorem Ln40.sm {q : Rat} (h : Ln 40 0 q) : Sm q := Ln.sm h (by omega) (by omega)
end Nm
end Go.Proofs.YtlbnjgnbpiidaaaGreatDoor
namespace Go.Proofs.YtlbnjgnbpiidaaaGreatDoor
open Go.RowKit
namespace Nm
/-- a text is a letter -/
theorem tl_lit (d : ByteArray) (c : UInt8) : (d.toList == [c]) = decide (d = ⟨#[c]⟩) := by
  rw [Bool.eq_iff_iff]; simp only [beq_iff_eq, decide_eq_true_eq, ByteArray.toList_eq]
  constructor
  · intro h
    obtain ⟨a⟩ := d
    congr 1
    exact Array.toList_inj.1 h
  · intro h; rw [h]
/-- fault of a sum's texts -/
def smF (n d : ByteArray) : Int := if rF n d ≠ 0 then rF n d else if d ≠ ⟨#[49]⟩ then 3 else if 100 < (cutS n).size then 2 else 0
def smL : List RT → Int
  | [] => 0
  | r :: t => if smF r.n r.d ≠ 0 then smF r.n r.d else smL t
theorem smL_step {l : List RT} {k : Nat} {r : RT} (h : l[k]? = some r) : smL (l.drop k) = if smF r.n r.d ≠ 0 then smF r.n r.d else smL (l.drop (k + 1)) := by
  obtain ⟨hk, rfl⟩ := List.getElem?_eq_some_iff.1 h
  rw [List.drop_eq_getElem_cons hk]; rfl
theorem smL_all : ∀ {gs : List RT}, smL gs = 0 → ∀ r ∈ gs, smF r.n r.d = 0
  | [], _, r, hr => by cases hr
  | x :: t, h, r, hr => by
    unfold smL at h
    by_cases hx : smF x.n x.d = 0
    · rw [if_neg (fun h' => h' hx)] at h
      rcases List.mem_cons.1 hr with rfl | hr
      · exact hx
      · exact smL_all h r hr
    · rw [if_pos hx] at h; exact absurd h hx
theorem sm_parts {n d : ByteArray} (h : smF n d = 0) : rF n d = 0 ∧ ∃ q, Fits q ∧ rQ n d = q ∧ n = showN q ∧ d = showD q ∧ Ln 100 0 q := by
  unfold smF at h
  by_cases hr : rF n d = 0
  · rw [if_neg (fun h' => h' hr)] at h
    refine ⟨hr, ?_⟩
    obtain ⟨q, hq, hrq, hn, hm⟩ := Nt.show_parts hr
    by_cases hd : d = ⟨#[49]⟩
    · rw [if_neg (fun h' => h' hd)] at h
      by_cases hl : 100 < (cutS n).size
      · rw [if_pos hl] at h; cases h
      · refine ⟨q, hq, hrq, hn, hm, ?_⟩
        obtain ⟨_, h2, h3, h4, h5, h6, h7, _⟩ := rQ_facts hr
        have l1 : (cutS n).data.toList.length = (cutS n).size := Array.length_toList
        have e1 := decv_lt (Nt.whole_digs h4)
        rw [← hrq]
        constructor
        · rw [h2, sgn_natAbs]
          exact Nat.le_trans (Nat.le_of_lt e1) (ten_le (by omega))
        · rw [h3, hd]
          decide
    · rw [if_pos hd] at h; cases h
  · rw [if_pos hr] at h; exact absurd h hr
/-- five sums -/
structure Q5 where
  x : Rat
  y : Rat
  xx : Rat
  yy : Rat
  xy : Rat
def Q5.l (q : Q5) : List Rat := [q.x, q.y, q.xx, q.yy, q.xy]
/-- the texts of five sums -/
structure R5 where
  x : RT
  y : RT
  xx : RT
  yy : RT
  xy : RT
def R5.l (r : R5) : List RT := [r.x, r.y, r.xx, r.yy, r.xy]
def R5.q (r : R5) : Q5 := ⟨rQ r.x.n r.x.d, rQ r.y.n r.y.d, rQ r.xx.n r.xx.d, rQ r.yy.n r.yy.d, rQ r.xy.n r.xy.d⟩
def R5.ok (r : R5) : Prop := rtOk r.x ∧ rtOk r.y ∧ rtOk r.xx ∧ rtOk r.yy ∧ rtOk r.xy
def shR (q : Rat) : RT := ⟨showN q, showD q⟩
def Q5.r (q : Q5) : R5 := ⟨shR q.x, shR q.y, shR q.xx, shR q.yy, shR q.xy⟩
/-- the three differences: n xx - x x, n yy - y y, n xy - x y -/
def dfA (n : Int) (q : Q5) : Rat := (n : Rat) * q.xx - q.x * q.x
def dfB (n : Int) (q : Q5) : Rat := (n : Rat) * q.yy - q.y * q.y
def dfC (n : Int) (q : Q5) : Rat := (n : Rat) * q.xy - q.x * q.y
def posB1 (n : Int) (q : Q5) : Bool := decide (0 ≤ q.xx) && (decide (0 ≤ q.yy) && (decide (0 ≤ dfA n q) && (decide (0 ≤ dfB n q) && decide (dfC n q * dfC n q ≤ dfA n q * dfB n q))))
def zerB (q : Q5) : Bool := decide (q.x = 0) && (decide (q.y = 0) && (decide (q.xx = 0) && (decide (q.yy = 0) && decide (q.xy = 0))))
/-- there can be pairs with these sums -/
def posB (n : Int) (q : Q5) : Bool := if n = 0 then zerB q else posB1 n q
theorem posB1_iff {n : Int} {q : Q5} : posB1 n q = true ↔ 0 ≤ q.xx ∧ 0 ≤ q.yy ∧ 0 ≤ dfA n q ∧ 0 ≤ dfB n q ∧ dfC n q * dfC n q ≤ dfA n q * dfB n q := by
  unfold posB1; simp
def momF (n : Int) (r : R5) : Int := if n < 0 ∨ 20000 < n then 1 else if smL r.l ≠ 0 then smL r.l else if posB n r.q = true then 0 else 13
/-- sums of few digits -/
structure QL (q : Q5) : Prop where
  x : Ln 100 0 q.x
  y : Ln 100 0 q.y
  xx : Ln 100 0 q.xx
  yy : Ln 100 0 q.yy
  xy : Ln 100 0 q.xy
structure QF (q : Q5) : Prop where
  x : Fits q.x
  y : Fits q.y
  xx : Fits q.xx
  yy : Fits q.yy
  xy : Fits q.xy
theorem QL.fits {q : Q5} (h : QL q) : QF q := ⟨h.x.fits (by omega) (by omega), h.y.fits (by omega) (by omega), h.xx.fits (by omega) (by omega), h.yy.fits (by omega) (by omega), h.xy.fits (by omega) (by omega)⟩
theorem sm_five {r : R5} (h : smL r.l = 0) : ∃ q : Q5, r = q.r ∧ r.q = q ∧ QL q := by
  have ha := smL_all h
  have f : ∀ p ∈ r.l, p = shR (rQ p.n p.d) ∧ Ln 100 0 (rQ p.n p.d) := fun p hp => by
    obtain ⟨_, q, _, hrq, hn, hd, hl⟩ := sm_parts (ha p hp)
    rw [hrq]
    refine ⟨?_, hl⟩
    obtain ⟨pn, pd⟩ := p
    simp only at hn hd
    rw [hn, hd]; rfl
  obtain ⟨x, y, xx, yy, xy⟩ := r
  refine ⟨_, ?_, rfl, ?_⟩
  · show R5.mk x y xx yy xy = R5.mk _ _ _ _ _
    congr 1
    · exact (f x (by simp [R5.l])).1
    · exact (f y (by simp [R5.l])).1
    · exact (f xx (by simp [R5.l])).1
    · exact (f yy (by simp [R5.l])).1
    · exact (f xy (by simp [R5.l])).1
  · exact ⟨(f x (by simp [R5.l])).2, (f y (by simp [R5.l])).2, (f xx (by simp [R5.l])).2, (f yy (by simp [R5.l])).2, (f xy (by simp [R5.l])).2⟩
theorem mom_parts {n : Int} {r : R5} (h : momF n r = 0) : (0 ≤ n ∧ n ≤ 20000) ∧ smL r.l = 0 ∧ ∃ q : Q5, r = q.r ∧ r.q = q ∧ QL q ∧ posB n q = true := by
  unfold momF at h
  by_cases h1 : n < 0 ∨ 20000 < n
  · rw [if_pos h1] at h; cases h
  · rw [if_neg h1] at h
    by_cases h2 : smL r.l = 0
    · rw [if_neg (fun h' => h' h2)] at h
      obtain ⟨q, e1, e2, hl⟩ := sm_five h2
      by_cases h3 : posB n r.q = true
      · exact ⟨by omega, h2, q, e1, e2, hl, by rw [← e2]; exact h3⟩
      · rw [if_neg h3] at h; cases h
    · rw [if_pos h2] at h; exact absurd h h2
/-- fault of moments that must be of at least k pairs -/
def atF (k n : Int) (r : R5) : Int := if momF n r ≠ 0 then momF n r else if n < k then 9 else 0
theorem at_parts {k n : Int} {r : R5} (h : atF k n r = 0) : momF n r = 0 ∧ k ≤ n := by
  unfold atF at h
  by_cases h1 : momF n r = 0
  · rw [if_neg (fun h' => h' h1)] at h
    by_cases h2 : n < k
    · rw [if_pos h2] at h; cases h
    · exact ⟨h1, by omega⟩
  · rw [if_pos h1] at h; exact absurd h h1
/-- the sums around the means -/
def spA (n : Int) (q : Q5) : Rat := q.xx - q.x * q.x / (n : Rat)
def spB (n : Int) (q : Q5) : Rat := q.yy - q.y * q.y / (n : Rat)
def spC (n : Int) (q : Q5) : Rat := q.xy - q.x * q.y / (n : Rat)
/-- sizes -/
theorem ln_n {n : Int} (h0 : 0 ≤ n) (h : n ≤ 20000) : Ln 5 0 (n : Rat) := Ln.int (show n.natAbs ≤ 10 ^ 5 by omega)
theorem n_ne {n : Int} (h : 1 ≤ n) : (n : Rat) ≠ 0 := by
  intro e
  have : (n : Rat) = ((0 : Int) : Rat) := e
  have := Rat.intCast_inj.1 this
  omega
theorem sp_ln {n : Int} (h0 : 1 ≤ n) (h : n ≤ 20000) {a x y : Rat} (ha : Ln 100 0 a) (hx : Ln 100 0 x) (hy : Ln 100 0 y) : Ln 200 0 (x * y) ∧ Ln 200 5 (x * y / (n : Rat)) ∧ Ln 201 5 (a - x * y / (n : Rat)) := by
  have h1 := (hx.mul hy).mono (a' := 200) (b' := 0) (by omega) (by omega)
  have h2 := (h1.div (ln_n (by omega) h) (n_ne h0)).mono (a' := 200) (b' := 5) (by omega) (by omega)
  exact ⟨h1, h2, (ha.sub h2).mono (by omega) (by omega)⟩
theorem QL.spA {n : Int} {q : Q5} (h : QL q) (h0 : 1 ≤ n) (h1 : n ≤ 20000) : Ln 201 5 (spA n q) := (sp_ln h0 h1 h.xx h.x h.x).2.2
theorem QL.spB {n : Int} {q : Q5} (h : QL q) (h0 : 1 ≤ n) (h1 : n ≤ 20000) : Ln 201 5 (spB n q) := (sp_ln h0 h1 h.yy h.y h.y).2.2
theorem QL.spC {n : Int} {q : Q5} (h : QL q) (h0 : 1 ≤ n) (h1 : n ≤ 20000) : Ln 201 5 (spC n q) := (sp_ln h0 h1 h.xy h.x h.y).2.2
theorem df_ln {n : Int} (h0 : 0 ≤ n) (h : n ≤ 20000) {a x y : Rat} (ha : Ln 100 0 a) (hx : Ln 100 0 x) (hy : Ln 100 0 y) : Ln 105 0 ((n : Rat) * a) ∧ Ln 200 0 (x * y) ∧ Ln 201 0 ((n : Rat) * a - x * y) := by
  have h1 := ((ln_n h0 h).mul ha).mono (a' := 105) (b' := 0) (by omega) (by omega)
  have h2 := (hx.mul hy).mono (a' := 200) (b' := 0) (by omega) (by omega)
  exact ⟨h1, h2, (h1.sub h2).mono (by omega) (by omega)⟩
/-- moments as cells -/
def rtC (q : Rat) : List Value := [.string (showN q), .string (showD q)]
end Nm
end Go.Proofs.YtlbnjgnbpiidaaaGreatDoor
