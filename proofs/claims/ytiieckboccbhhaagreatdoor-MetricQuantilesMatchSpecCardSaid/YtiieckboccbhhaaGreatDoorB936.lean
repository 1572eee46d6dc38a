/- Decimal of package value. Printed by gen_dec.py. readAll of package decide. Printed by gen_sevb.py. Together of both. Printed by gen_sevt.py. Arithmetic of package metric: within, whole, times, minus, over; the number with the other sign. Printed by gen_meta.py. What Ranks returns. -/
import Derived.Test.YtiieckboccbhhaaGreatDoorB924
import Derived.Test.YtiieckboccbhhaaGreatDoorB900
import Derived.Test.YtiieckboccbhhaaGreatDoorB923
import Derived.Test.YtiieckboccbhhaaGreatDoorB921
import Derived.Test.YtiieckboccbhhaaGreatDoorB904
import Derived.Test.YtiieckboccbhhaaGreatDoorB934
import Derived.Test.YtiieckboccbhhaaGreatDoorB925
import Derived.Test.YtiieckboccbhhaaGreatDoorB922
namespace Go.Proofs.YtiieckboccbhhaaGreatDoor
open Go.RowKit
namespace Nm
def TP.num (n : Nat) : TP := ⟨fun w v => N w v n, fun _ _ _ hb h => h.ext hb⟩
def XIf (w : World) (n d : ByteArray) (v : Value) : Prop := rF n d = 0 → XR w v (rQ n d)
theorem XIf.ext {w w' : World} {n d : ByteArray} {v : Value} (h : XIf w n d v) (hb : Below w.heap.size w w') : XIf w' n d v := fun h0 => (h h0).ext hb
end Nm
end Go.Proofs.YtiieckboccbhhaaGreatDoor
namespace Go.Proofs.YtiieckboccbhhaaGreatDoor
open Go.RowKit
namespace Nm
structure Y3 where
 b : Bool
 a1 : Option Addr
 n1 : Nat
 c1 : Nat
 a2 : Option Addr
 n2 : Nat
 c2 : Nat
def y3L (t : Y3) : List Value := [.bool t.b, .slice t.a1 t.n1 t.c1, .slice t.a2 t.n2 t.c2]
def y3V (t : Y3) : Value := xv t.b t.a1 t.n1 t.c1 t.a2 t.n2 t.c2
/-- numbers read so far, in a row of the call's own -/
structure XL (w wr : World) (base : Nat) (gs : List RT) (v : Value) (k : Nat) (xs : List Y3) : Prop where
 low : Below w.heap.size w wr
 own : wr.ownsRow base 43 3 v k (xs.flatMap y3L)
 q : RowQ NW wr v
 len : xs.length = k
 ok : ∀ (i : Nat) x r, xs[i]? = some x → gs[i]? = some r → XR wr (y3V x) (rQ r.n r.d)
 bs : base ≤ wr.heap.size
 lw : w.heap.size ≤ base
theorem XL.ext {w wr w' : World} {base : Nat} {gs : List RT} {v : Value} {k : Nat} {xs : List Y3} (h : XL w wr base gs v k xs) (hb : Below wr.heap.size wr w') : XL w w' base gs v k xs :=
 ⟨ext_trans h.low hb, ownsRow_ext h.own hb, h.q.ext h.own hb, h.len, fun i x r h1 h2 => (h.ok i x r h1 h2).ext hb, Nat.le_trans h.bs hb.size, h.lw⟩
theorem XL.push {w wr w' : World} {base : Nat} {gs : List RT} {v v' : Value} {k : Nat} {xs : List Y3} (h : XL w wr base gs v k xs) (x : Y3) (hg : wr.grownBy w' v.ownBlock)
  (hown : w'.ownsRow base 43 3 v' (k + 1) (xs.flatMap y3L ++ y3L x)) (hq : RowQ NW w' v') {r : RT} (hr : gs[k]? = some r) (hx : XR wr (y3V x) (rQ r.n r.d)) : XL w w' base gs v' (k + 1) (xs ++ [x]) := by
 have lt : ∀ q, v.ownBlock = some q → base ≤ q := fun q e => (h.own.lt q e).1
 have h1 := h.lw
 refine ⟨h.low.grown hg h.low.size (fun q e => by have := lt q e; omega), ?_, hq, by rw [List.length_append, h.len]; rfl, ?_, Nat.le_trans h.bs hg.size, h1⟩
 ·rw [List.flatMap_append]; simpa using hown
 ·intro i x' r' e1 e2
  rcases Nat.lt_or_ge i k with hi | hi
  ·rw [List.getElem?_append_left (by rw [h.len]; exact hi)] at e1
   exact (h.ok i x' r' e1 e2).keepQ h.q hg
  ·rw [List.getElem?_append_right (by rw [h.len]; exact hi), h.len] at e1
   have hi' : i - k = 0 := by
    rcases Nat.eq_zero_or_pos (i - k) with h0 | h0
    ·exact h0
    ·rw [List.getElem?_eq_none (by simp; omega)] at e1; cases e1
   rw [hi'] at e1
   obtain rfl : x = x' := by simpa using e1
   have hik : i = k := by omega
   subst hik
   rw [hr] at e2
   cases e2
   exact hx.keepQ h.q hg
/-- numbers that lie in memory as the ratios of a list say -/
structure XsOf (w : World) (gs : List RT) (xs : List Y3) (a : Option Addr) (c : Nat) : Prop where
 len : xs.length = gs.length
 sl : Sl w (.slice a xs.length c) xs.length (xs.flatMap y3L)
 ok : ∀ (i : Nat) x r, xs[i]? = some x → gs[i]? = some r → XR w (y3V x) (rQ r.n r.d)
theorem XsOf.ext {w w' : World} {gs : List RT} {xs : List Y3} {a : Option Addr} {c : Nat} (h : XsOf w gs xs a c) (hb : Below w.heap.size w w') : XsOf w' gs xs a c :=
 ⟨h.len, h.sl.ext hb, fun i x r h1 h2 => (h.ok i x r h1 h2).ext hb⟩
def XsIf (w : World) (f : Int) (gs : List RT) (xs : List Y3) (a : Option Addr) (c : Nat) : Prop := f = 0 → XsOf w gs xs a c
theorem XsIf.ext {w w' : World} {f : Int} {gs : List RT} {xs : List Y3} {a : Option Addr} {c : Nat} (h : XsIf w f gs xs a c) (hb : Below w.heap.size w w') : XsIf w' f gs xs a c := fun h0 => (h h0).ext hb
end Nm
end Go.Proofs.YtiieckboccbhhaaGreatDoor
namespace Go.Proofs.YtiieckboccbhhaaGreatDoor
open Go.RowKit
namespace Nm
/-- a product of k evidences -/
def PrOk (k : Nat) (p : Rat) : Prop := Ln (100 * k) (100 * k) p
theorem PrOk.one : PrOk 0 1 := by
 have h := Ln.nat (n := 1) (a := 0) (by decide)
 exact h
theorem PrOk.mul {k : Nat} {p q : Rat} (h : PrOk k p) (hq : Ln 100 100 q) : PrOk (k + 1) (p * q) := (Ln.mul h hq).mono (by omega) (by omega)
theorem PrOk.fits {k : Nat} {p : Rat} (h : PrOk k p) (hk : k ≤ 10) : Fits p := Ln.fits h (by omega) (by omega)
theorem PrOk.small {k : Nat} {p : Rat} (h : PrOk k p) (hk : k ≤ 10) : wlen p.num.natAbs ≤ 6000 ∧ wlen p.den ≤ 6000 := Ln.small h (by omega) (by omega)
def y3C (t : Y3) : Array Value := #[.bool t.b, .slice t.a1 t.n1 t.c1, .slice t.a2 t.n2 t.c2]
/-- a number in a block of the call's own that may be written -/
def Acc (w : World) (b : Nat) (s : Rat) : Prop := (∃ t, Box w b (y3C t) ∧ XR w (y3V t) s) ∧ Fre w b
theorem Acc.ext {w w' : World} {b : Nat} {s : Rat} (h : Acc w b s) (hb : Below w.heap.size w w') : Acc w' b s := by
 obtain ⟨⟨t, h1, h2⟩, h3⟩ := h
 exact ⟨⟨t, h1.ext hb, h2.ext hb⟩, h3.ext h1 hb⟩
/-- the world since W0: what lay below b is as it was -/
def Since (b : Nat) (W0 w : World) : Prop := Below b W0 w ∧ b ≤ w.heap.size
theorem Since.ext {b : Nat} {W0 w w' : World} (h : Since b W0 w) (hb : Below w.heap.size w w') : Since b W0 w' := ⟨h.1.trans (hb.mono h.2), Nat.le_trans h.2 hb.size⟩
end Nm
namespace Nt
open _root_.Go.Proofs.YtiieckboccbhhaaGreatDoor.Nm (rF rQ showN showD Fits RT AnsPost PrOk PrOk.one PrOk.mul PrOk.fits Ln)
end Nt
end Go.Proofs.YtiieckboccbhhaaGreatDoor
namespace Go.Proofs.YtiieckboccbhhaaGreatDoor
open Go.RowKit
namespace Nm
def TP.xq (q : Rat) : TP := ⟨fun w v => XR w v q, fun _ _ _ hb h => h.ext hb⟩
/-- a number that the program can reckon with -/
def Sm (q : Rat) : Prop := wlen q.num.natAbs ≤ 100000000 ∧ wlen q.den ≤ 100000000
theorem Ln.sm {a b : Nat} {q : Rat} (h : Ln a b q) (ha : a ≤ 5000) (hb : b ≤ 5000) : Sm q := by
 have := Ln.small h ha hb
 exact ⟨by omega, by omega⟩
theorem mwithin_yes (n low high : Int) (h1 : low ≤ n) (h2 : n ≤ high) (w : World) : Calls Tryz.prog 17 #[.int .i64 n, .int .i64 low, .int .i64 high] w fun e w' => e = .returned (.bool true) ∧ w = w' := by
 go_enter Tryz.func17, Tryz.ntmps17
 go_wp2
 go_ret
 exact ⟨rfl, rfl⟩
theorem mwithin_no (n low high : Int) (h : n < low ∨ high < n) (w : World) : Calls Tryz.prog 17 #[.int .i64 n, .int .i64 low, .int .i64 high] w fun e w' => e = .returned (.bool false) ∧ w = w' := by
 by_cases h1 : n < low
 ·clear h
  go_enter Tryz.func17, Tryz.ntmps17
  go_wp2
  go_ret
  exact ⟨rfl, rfl⟩
 ·have h2 : decide (n ≤ high) = false := decide_eq_false (by omega)
  have h3 : low ≤ n := by omega
  clear h h1
  go_enter Tryz.func17, Tryz.ntmps17
  go_wp2
  go_ret
  exact ⟨rfl, rfl⟩
theorem neg_facts (q : Rat) : (-q).num.natAbs = q.num.natAbs ∧ (-q).den = q.den ∧ decide ((-q).num < 0) = decide (0 < q.num) := by
 rw [Rat.neg_num, Rat.neg_den]
 refine ⟨by omega, rfl, ?_⟩
 rw [Bool.eq_iff_iff, decide_eq_true_eq, decide_eq_true_eq]; omega
theorem Sm.neg {q : Rat} (h : Sm q) : Sm (-q) := by
 obtain ⟨h1, h2, _⟩ := neg_facts q
 unfold Sm; rw [h1, h2]; exact h
theorem Sm.inv {q : Rat} (h : Sm q) (h0 : q ≠ 0) : Sm q⁻¹ := by
 obtain ⟨f1, f2, _, _⟩ := inv_facts (fun e => h0 (Rat.num_eq_zero.1 e))
 unfold Sm; rw [f1, f2]; exact ⟨h.2, h.1⟩
set_option maxHeartbeats 4000000 in
theorem xminus_at (q : Rat) (v : Value) (w : World) (hx : XR w v q) : Calls Tryz.prog 61 #[v] w (XPost w (-q)) := by
 obtain ⟨a1, c1, a2, c2, rfl, h1, h2⟩ := hx.open_
 have H1 := Lib.hid h1
 have H2 := Lib.hid h2
 have HI := Lib.hid (neg_facts q)
 have hwz := @wlen_eq_zero q.num.natAbs
 unfold wlen at hwz
 have HP : Hid (∀ b : Bool, (b = true ↔ 0 < q.num) → decide ((-q).num < 0) = b) := Lib.hid fun b hb => by rw [HI.out.2.2, Bool.eq_iff_iff, decide_eq_true_eq]; exact hb.symm
 clear h1 h2 hx
 by_cases hb : q.num < 0
 ·have HB : Hid (decide ((-q).num < 0) = false) := Lib.hid (HP.out false (by simp; omega))
  rw [decide_eq_true hb]
  clear hb hwz HP
  go_enter Tryz.func61, Tryz.ntmps61
  go_upto_region 1 with (fail)
  refine wp_box2r fun W hsz hbW hA hC hF => ?_
  obtain ⟨_, hA2⟩ := id hA
  obtain ⟨r0, r1, r2⟩ := boxX hC
  have g0 := hF 0
  have g1 := hF 1
  have g2 := hF 2
  obtain ⟨k1, k2, k3, z0, z1, z2⟩ := res3 false hC (H1.out.ext hbW) (H2.out.ext hbW) hbW (by omega)
  have HK := Lib.hid (And.intro k1 (And.intro k2 k3))
  clear k1 k2 k3 hsz
  go_wp2
  refine bodyPost_ret (v := .agg #[.bool false, .slice a1 (digs q.num.natAbs).length c1, .slice a2 (digs q.den).length c2]) (by simp [results, Tryz.results61, go_sem, z0, z1, z2]) rfl ⟨_, rfl, ⟨.slice a1 (digs q.num.natAbs).length c1, .slice a2 (digs q.den).length c2, ?_, ?_, ?_⟩, HK.out.2.2⟩
  ·rw [HB.out]
  ·rw [HI.out.1]; exact HK.out.1
  ·rw [HI.out.2.1]; exact HK.out.2.1
 ·obtain ⟨L, hL⟩ : ∃ L, (digs q.num.natAbs).length = L := ⟨_, rfl⟩
  have HB : Hid (decide ((-q).num < 0) = decide (0 < L)) := Lib.hid (by
   refine HP.out _ ?_
   rw [decide_eq_true_eq, ← hL]; omega)
  have HL := Lib.hid hL
  rw [decide_eq_false hb]
  rw [hL] at hwz ⊢
  rw [hL] at H1
  clear hb hwz HP hL
  go_enter Tryz.func61, Tryz.ntmps61
  go_upto_region 1 with (fail)
  refine wp_box2r fun W hsz hbW hA hC hF => ?_
  obtain ⟨_, hA2⟩ := id hA
  obtain ⟨r0, r1, r2⟩ := boxX hC
  have g0 := hF 0
  have g1 := hF 1
  have g2 := hF 2
  obtain ⟨k1, k2, k3, z0, z1, z2⟩ := res3 (decide (0 < L)) hC (H1.out.ext hbW) (H2.out.ext hbW) hbW (by omega)
  have HK := Lib.hid (And.intro k1 (And.intro k2 k3))
  clear k1 k2 k3 hsz
  go_wp2
  refine bodyPost_ret (v := .agg #[.bool (decide (0 < L)), .slice a1 L c1, .slice a2 (digs q.den).length c2]) (by simp [results, Tryz.results61, go_sem, z0, z1, z2]) rfl ⟨_, rfl, ⟨.slice a1 L c1, .slice a2 (digs q.den).length c2, ?_, ?_, ?_⟩, HK.out.2.2⟩
  ·rw [HB.out]
  ·rw [HI.out.1]; exact HK.out.1
  ·rw [HI.out.2.1]; exact HK.out.2.1
theorem mwhole_at (n : Int) (h1 : -9223372036854775808 ≤ n) (h2 : n ≤ 9223372036854775807) (w : World) : Calls Tryz.prog 24 #[.int .i64 n] w (XPost w (n : Rat)) := by
 go_enter Tryz.func24, Tryz.ntmps24
 go_upto_region 1 with (fail)
 refine wp_box1r fun W hsz hbW hC hF => ?_
 clear hsz
 go_wp2_with fail
 refine (xratInt_at n h1 h2 _).mono ?_
 rintro e w2 ⟨v, rfl, hx, hb⟩
 obtain ⟨v1, v2, rfl, hn1', hn2'⟩ := hx
 have hn1 : N w2 v1 n.natAbs := hn1'
 have hn2 : N w2 v2 1 := hn2'
 obtain ⟨p1, c5, rfl, _⟩ := hn1.open_
 obtain ⟨p2, c6, rfl, _⟩ := hn2.open_
 clear hn1' hn2'
 rw [show decide ((n : Rat).num < 0) = decide (n < 0) from rfl]
 have hC3 := hC.ext hb
 have hF3 := hF.ext hC hb
 have hbw := ext_trans hbW hb
 have hle : w.heap.size ≤ w.heap.size := Nat.le_refl _
 have g0 := hF3 0
 have g1 := hF3 1
 have g2 := hF3 2
 obtain ⟨r0, r1, r2⟩ := boxX hC3
 obtain ⟨k1, k2, k3, z0, z1, z2⟩ := res3 (decide (n < 0)) hC3 hn1 hn2 hbw hle
 have HK := Lib.hid (And.intro k1 (And.intro k2 k3))
 clear k1 k2 k3
 go_wp2
 exact bodyPost_ret (v := .agg #[.bool (decide (n < 0)), .slice p1 (digs n.natAbs).length c5, .slice p2 (digs 1).length c6]) (by simp [results, Tryz.results24, go_sem, z0, z1, z2]) rfl ⟨_, rfl, ⟨_, _, rfl, HK.out.1, HK.out.2.1⟩, HK.out.2.2⟩
set_option maxRecDepth 100000 in
set_option maxHeartbeats 8000000 in
theorem mminus_at (x y : Rat)  (v u : Value) (w : World) (hx : XR w v x) (hy : XR w u y) (l1 : Sm x) (l2 : Sm y) : Calls Tryz.prog 26 #[v, u] w (XPost w (x + -y)) := by
 obtain ⟨a1, c1, a2, c2, rfl, _, _⟩ := hx.open_
 obtain ⟨a3, c3, a4, c4, rfl, _, _⟩ := hy.open_
 have HX := Lib.hid hx
 have HY := Lib.hid hy
 clear hx hy
 generalize decide (x.num < 0) = bx at *
 generalize (digs x.num.natAbs).length = m1 at *
 generalize (digs x.den).length = m2 at *
 generalize decide (y.num < 0) = by' at *
 generalize (digs y.num.natAbs).length = m3 at *
 generalize (digs y.den).length = m4 at *
 go_enter Tryz.func26, Tryz.ntmps26
 go_upto_region 1 with (fail)
 refine wp_box3r fun w1' hsz hbW hA0 hA1 hC hF => ?_
 clear hsz
 have HB_x := Lib.hid hA0
 have HB_y := Lib.hid hA1
 have HB_o := Lib.hid hC
 have HF_o := Lib.hid hF
 have HW := Lib.hid hbW
 clear hbW hA0 hA1 hC hF
 replace HX := Lib.hid (HX.out.ext HW.out)
 replace HY := Lib.hid (HY.out.ext HW.out)
 have c_x_0 : w1'.cell? ⟨w.heap.size, 0, none⟩ = some (.bool bx) := HB_x.out.2 0
 have c_x_1 : w1'.cell? ⟨w.heap.size, 1, none⟩ = some (.slice a1 m1 c1) := HB_x.out.2 1
 have c_x_2 : w1'.cell? ⟨w.heap.size, 2, none⟩ = some (.slice a2 m2 c2) := HB_x.out.2 2
 have c_y_0 : w1'.cell? ⟨(w.heap.size + 1), 0, none⟩ = some (.bool by') := HB_y.out.2 0
 have c_y_1 : w1'.cell? ⟨(w.heap.size + 1), 1, none⟩ = some (.slice a3 m3 c3) := HB_y.out.2 1
 have c_y_2 : w1'.cell? ⟨(w.heap.size + 1), 2, none⟩ = some (.slice a4 m4 c4) := HB_y.out.2 2
 refine Grow.wp_region_grow 4 [TP.eq (.agg #[.bool bx, .slice a1 m1 c1, .slice a2 m2 c2]), TP.eq (.agg #[.bool by', .slice a3 m3 c3, .slice a4 m4 c4]), TP.xq (-y), TP.xq (x + -y)] [[], [], [1], [0, 2]] (by kernel_rfl) (by kernel_rfl) ⟨?o0m, ?o1m, ?o2m, ?o3m, trivial⟩ ?_
 case o0m =>
  intro w' hb
  have c_x_0' := zzc hb c_x_0
  have c_x_1' := zzc hb c_x_1
  have c_x_2' := zzc hb c_x_2
  show wpList _ _ _ _ _ _
  go_wp2
  exact ⟨rfl, Below.refl _ _, rfl⟩
 case o1m =>
  intro w' hb
  have c_y_0' := zzc hb c_y_0
  have c_y_1' := zzc hb c_y_1
  have c_y_2' := zzc hb c_y_2
  show wpList _ _ _ _ _ _
  go_wp2
  exact ⟨rfl, Below.refl _ _, rfl⟩
 case o2m =>
  intro w' hb v1 hv1
  obtain rfl : v1 = _ := hv1
  show wpList _ _ _ _ _ _
  simp only [Grow.dstOf, zz1, zz2, zz3, zz4, Act.put, zz5, zz6, zz7]
  go_wp2_with fail
  refine (xminus_at y _ w' (HY.out.ext hb)).mono ?_
  rintro e wz ⟨vz, rfl, hxz, hbz⟩
  go_wp2
  exact ⟨hxz, hbz, rfl⟩
 case o3m =>
  intro w' hb v1 hv1 v2 hv2
  obtain rfl : v1 = _ := hv1
  have hv2' : XR w' v2 (-y) := hv2
  clear hv2
  show wpList _ _ _ _ _ _
  simp only [Grow.dstOf, zz1, zz2, zz3, zz4, Act.put, zz5, zz6, zz7]
  go_wp2_with fail
  refine (xplus_at x (-y) _ _ w' (HX.out.ext hb) hv2' l1.1 l1.2 l2.neg.1 l2.neg.2).mono ?_
  rintro e wz ⟨vz, rfl, hxz, hbz⟩
  go_wp2
  exact ⟨hxz, hbz, rfl⟩
 intro w2' hbz u0 hu0 u1 hu1 u2 hu2 u3 hu3
 have hv : XR w2' u3 (x + -y) := hu3
 clear hu0 hu1 hu2 hu3
 replace HB_x := Lib.hid (HB_x.out.ext hbz)
 replace HB_y := Lib.hid (HB_y.out.ext hbz)
 replace HF_o := Lib.hid (HF_o.out.ext HB_o.out hbz)
 replace HB_o := Lib.hid (HB_o.out.ext hbz)
 replace HX := Lib.hid (HX.out.ext hbz)
 replace HY := Lib.hid (HY.out.ext hbz)
 replace HW := Lib.hid (ext_trans HW.out hbz)
 clear c_x_0 c_x_1 c_x_2 c_y_0 c_y_1 c_y_2
 clear hbz
 obtain ⟨p1, g1, p2, g2, rfl, k1, k2⟩ := hv.open_
 obtain ⟨z, hz⟩ : ∃ z : Rat, x + -y = z := ⟨_, rfl⟩
 rw [hz] at k1 k2 ⊢
 have HZ := Lib.hid hz
 clear hv hz
 have c_o_0 : w2'.cell? ⟨(w.heap.size + 2), 0, none⟩ = some (.bool false) := HB_o.out.2 0
 have c_o_1 : w2'.cell? ⟨(w.heap.size + 2), 1, none⟩ = some (.slice none 0 0) := HB_o.out.2 1
 have c_o_2 : w2'.cell? ⟨(w.heap.size + 2), 2, none⟩ = some (.slice none 0 0) := HB_o.out.2 2
 have f_o_0 := HF_o.out 0
 have f_o_1 := HF_o.out 1
 have f_o_2 := HF_o.out 2
 obtain ⟨n1, n2, n3, z0, z1, z2⟩ := res3 (decide (z.num < 0)) HB_o.out k1 k2 HW.out (by omega)
 have HK := Lib.hid (And.intro n1 (And.intro n2 n3))
 clear n1 n2 n3 k1 k2
 show wpList _ _ _ _ _ _
 simp only [Act.put, zz5, zz6, zz7]
 go_wp2
 exact bodyPost_ret (v := .agg #[.bool (decide (z.num < 0)), .slice p1 (digs z.num.natAbs).length g1, .slice p2 (digs z.den).length g2]) (by simp [results, Tryz.results26, go_sem, z0, z1, z2]) rfl ⟨_, rfl, (by rw [HZ.out]; exact ⟨_, _, rfl, HK.out.1, HK.out.2.1⟩), HK.out.2.2⟩
set_option maxRecDepth 100000 in
set_option maxHeartbeats 8000000 in
theorem mover_at (x y : Rat) (h0 : y ≠ 0) (v u : Value) (w : World) (hx : XR w v x) (hy : XR w u y) (l1 : Sm x) (l2 : Sm y) : Calls Tryz.prog 23 #[v, u] w (XPost w (x * y⁻¹)) := by
 obtain ⟨a1, c1, a2, c2, rfl, _, _⟩ := hx.open_
 obtain ⟨a3, c3, a4, c4, rfl, _, _⟩ := hy.open_
 have HX := Lib.hid hx
 have HY := Lib.hid hy
 clear hx hy
 generalize decide (x.num < 0) = bx at *
 generalize (digs x.num.natAbs).length = m1 at *
 generalize (digs x.den).length = m2 at *
 generalize decide (y.num < 0) = by' at *
 generalize (digs y.num.natAbs).length = m3 at *
 generalize (digs y.den).length = m4 at *
 go_enter Tryz.func23, Tryz.ntmps23
 go_upto_region 1 with (fail)
 refine wp_box3r fun w1' hsz hbW hA0 hA1 hC hF => ?_
 clear hsz
 have HB_x := Lib.hid hA0
 have HB_y := Lib.hid hA1
 have HB_o := Lib.hid hC
 have HF_o := Lib.hid hF
 have HW := Lib.hid hbW
 clear hbW hA0 hA1 hC hF
 replace HX := Lib.hid (HX.out.ext HW.out)
 replace HY := Lib.hid (HY.out.ext HW.out)
 have c_x_0 : w1'.cell? ⟨w.heap.size, 0, none⟩ = some (.bool bx) := HB_x.out.2 0
 have c_x_1 : w1'.cell? ⟨w.heap.size, 1, none⟩ = some (.slice a1 m1 c1) := HB_x.out.2 1
 have c_x_2 : w1'.cell? ⟨w.heap.size, 2, none⟩ = some (.slice a2 m2 c2) := HB_x.out.2 2
 have c_y_0 : w1'.cell? ⟨(w.heap.size + 1), 0, none⟩ = some (.bool by') := HB_y.out.2 0
 have c_y_1 : w1'.cell? ⟨(w.heap.size + 1), 1, none⟩ = some (.slice a3 m3 c3) := HB_y.out.2 1
 have c_y_2 : w1'.cell? ⟨(w.heap.size + 1), 2, none⟩ = some (.slice a4 m4 c4) := HB_y.out.2 2
 refine Grow.wp_region_grow 4 [TP.eq (.agg #[.bool bx, .slice a1 m1 c1, .slice a2 m2 c2]), TP.eq (.agg #[.bool by', .slice a3 m3 c3, .slice a4 m4 c4]), TP.xq (y⁻¹), TP.xq (x * y⁻¹)] [[], [], [1], [0, 2]] (by kernel_rfl) (by kernel_rfl) ⟨?o0m, ?o1m, ?o2m, ?o3m, trivial⟩ ?_
 case o0m =>
  intro w' hb
  have c_x_0' := zzc hb c_x_0
  have c_x_1' := zzc hb c_x_1
  have c_x_2' := zzc hb c_x_2
  show wpList _ _ _ _ _ _
  go_wp2
  exact ⟨rfl, Below.refl _ _, rfl⟩
 case o1m =>
  intro w' hb
  have c_y_0' := zzc hb c_y_0
  have c_y_1' := zzc hb c_y_1
  have c_y_2' := zzc hb c_y_2
  show wpList _ _ _ _ _ _
  go_wp2
  exact ⟨rfl, Below.refl _ _, rfl⟩
 case o2m =>
  intro w' hb v1 hv1
  obtain rfl : v1 = _ := hv1
  show wpList _ _ _ _ _ _
  simp only [Grow.dstOf, zz1, zz2, zz3, zz4, Act.put, zz5, zz6, zz7]
  go_wp2_with fail
  refine (turned_at y _ w' (HY.out.ext hb) (fun e => h0 (Rat.num_eq_zero.1 e))).mono ?_
  rintro e wz ⟨vz, rfl, hxz, hbz⟩
  go_wp2
  exact ⟨hxz, hbz, rfl⟩
 case o3m =>
  intro w' hb v1 hv1 v2 hv2
  obtain rfl : v1 = _ := hv1
  have hv2' : XR w' v2 (y⁻¹) := hv2
  clear hv2
  show wpList _ _ _ _ _ _
  simp only [Grow.dstOf, zz1, zz2, zz3, zz4, Act.put, zz5, zz6, zz7]
  go_wp2_with fail
  refine (xtimes_at x y⁻¹ _ _ w' (HX.out.ext hb) hv2' l1.1 l1.2 (l2.inv h0).1 (l2.inv h0).2).mono ?_
  rintro e wz ⟨vz, rfl, hxz, hbz⟩
  go_wp2
  exact ⟨hxz, hbz, rfl⟩
 intro w2' hbz u0 hu0 u1 hu1 u2 hu2 u3 hu3
 have hv : XR w2' u3 (x * y⁻¹) := hu3
 clear hu0 hu1 hu2 hu3
 replace HB_x := Lib.hid (HB_x.out.ext hbz)
 replace HB_y := Lib.hid (HB_y.out.ext hbz)
 replace HF_o := Lib.hid (HF_o.out.ext HB_o.out hbz)
 replace HB_o := Lib.hid (HB_o.out.ext hbz)
 replace HX := Lib.hid (HX.out.ext hbz)
 replace HY := Lib.hid (HY.out.ext hbz)
 replace HW := Lib.hid (ext_trans HW.out hbz)
 clear c_x_0 c_x_1 c_x_2 c_y_0 c_y_1 c_y_2
 clear hbz
 obtain ⟨p1, g1, p2, g2, rfl, k1, k2⟩ := hv.open_
 obtain ⟨z, hz⟩ : ∃ z : Rat, x * y⁻¹ = z := ⟨_, rfl⟩
 rw [hz] at k1 k2 ⊢
 have HZ := Lib.hid hz
 clear hv hz
 have c_o_0 : w2'.cell? ⟨(w.heap.size + 2), 0, none⟩ = some (.bool false) := HB_o.out.2 0
 have c_o_1 : w2'.cell? ⟨(w.heap.size + 2), 1, none⟩ = some (.slice none 0 0) := HB_o.out.2 1
 have c_o_2 : w2'.cell? ⟨(w.heap.size + 2), 2, none⟩ = some (.slice none 0 0) := HB_o.out.2 2
 have f_o_0 := HF_o.out 0
 have f_o_1 := HF_o.out 1
 have f_o_2 := HF_o.out 2
 obtain ⟨n1, n2, n3, z0, z1, z2⟩ := res3 (decide (z.num < 0)) HB_o.out k1 k2 HW.out (by omega)
 have HK := Lib.hid (And.intro n1 (And.intro n2 n3))
 clear n1 n2 n3 k1 k2
 show wpList _ _ _ _ _ _
 simp only [Act.put, zz5, zz6, zz7]
 go_wp2
 exact bodyPost_ret (v := .agg #[.bool (decide (z.num < 0)), .slice p1 (digs z.num.natAbs).length g1, .slice p2 (digs z.den).length g2]) (by simp [results, Tryz.results23, go_sem, z0, z1, z2]) rfl ⟨_, rfl, (by rw [HZ.out]; exact ⟨_, _, rfl, HK.out.1, HK.out.2.1⟩), HK.out.2.2⟩
theorem mwhole_is (z : Int) (q : Rat) (hq : (z : Rat) = q) (h1 : -9223372036854775808 ≤ z) (h2 : z ≤ 9223372036854775807) (w : World) : Calls Tryz.prog 24 #[.int .i64 z] w (XPost w q) := by
 subst hq; exact mwhole_at z h1 h2 w
theorem mminus_is (x y q : Rat) (hq : x - y = q) (v u : Value) (w : World) (hx : XR w v x) (hy : XR w u y) (l1 : Sm x) (l2 : Sm y) : Calls Tryz.prog 26 #[v, u] w (XPost w q) := by
 subst hq; rw [Rat.sub_eq_add_neg]; exact mminus_at x y v u w hx hy l1 l2
theorem mover_is (x y q : Rat) (hq : x / y = q) (h0 : y ≠ 0) (v u : Value) (w : World) (hx : XR w v x) (hy : XR w u y) (l1 : Sm x) (l2 : Sm y) : Calls Tryz.prog 23 #[v, u] w (XPost w q) := by
 subst hq; rw [Rat.div_def]; exact mover_at x y h0 v u w hx hy l1 l2
end Nm
end Go.Proofs.YtiieckboccbhhaaGreatDoor
namespace Go.Proofs.YtiieckboccbhhaaGreatDoor
open Go.RowKit
namespace Nm
def RnPost (w : World) (lo hi f : Int) (e : Ending) (w' : World) : Prop := e = .returned (.tuple #[.int .i64 lo, .int .i64 hi, .int .i64 f]) ∧ Below w.heap.size w w'
def rnOk (n m : Int) : Prop := (1 ≤ n ∧ n ≤ 60) ∧ (1 ≤ m ∧ m ≤ 999)
instance (n m : Int) : Decidable (rnOk n m) := inferInstanceAs (Decidable (_ ∧ _))
def rnF (n m : Int) (a b : ByteArray) : Int := if missF a b ≠ 0 then missF a b else if rnOk n m then 0 else 1
def rnLo (n m : Int) (a b : ByteArray) : Int := if rnF n m a b = 0 then (loR n.toNat m.toNat (rQ a b) : Int) else 0
def rnHi (n m : Int) (a b : ByteArray) : Int := if rnF n m a b = 0 then (hiR n.toNat m.toNat (rQ a b) : Int) else 0
theorem rn_miss {n m : Int} {a b : ByteArray} (h : missF a b ≠ 0) : rnF n m a b = missF a b ∧ rnLo n m a b = 0 ∧ rnHi n m a b = 0 := by
  have h1 : rnF n m a b = missF a b := if_pos h
  exact ⟨h1, if_neg (by rw [h1]; exact h), if_neg (by rw [h1]; exact h)⟩
theorem rn_no {n m : Int} {a b : ByteArray} (h : missF a b = 0) (h2 : ¬ rnOk n m) : rnF n m a b = 1 ∧ rnLo n m a b = 0 ∧ rnHi n m a b = 0 := by
  have h1 : rnF n m a b = 1 := by unfold rnF; rw [if_neg (by rw [h]; simp), if_neg h2]
  exact ⟨h1, if_neg (by rw [h1]; decide), if_neg (by rw [h1]; decide)⟩
theorem rn_yes {n m : Nat} {a b : ByteArray} (h : missF a b = 0) (h2 : rnOk (n : Int) (m : Int)) : rnF n m a b = 0 ∧ rnLo n m a b = (loR n m (rQ a b) : Int) ∧ rnHi n m a b = (hiR n m (rQ a b) : Int) := by
  have h1 : rnF n m a b = 0 := by unfold rnF; rw [if_neg (by rw [h]; simp), if_pos h2]
  refine ⟨h1, ?_, ?_⟩
  · unfold rnLo; rw [if_pos h1]; rfl
  · unfold rnHi; rw [if_pos h1]; rfl
theorem miss_ok {a b : ByteArray} (h : missF a b = 0) : rF a b = 0 ∧ 0 < rQ a b ∧ rQ a b < 1 := by
  unfold missF at h
  by_cases h1 : rF a b = 0
  · rw [if_neg (by simp [h1])] at h
    refine ⟨h1, ?_⟩
    by_cases h2 : okM (rQ a b) = false
    · rw [if_pos h2] at h; cases h
    · have h3 : okM (rQ a b) = true := by simpa using h2
      unfold okM at h3
      rw [Bool.and_eq_true, decide_eq_true_eq, decide_eq_true_eq] at h3
      refine ⟨?_, cmpQ_m1.1 h3.2⟩
      rw [Rat.lt_iff]
      simpa using h3.1
  · rw [if_pos h1] at h; exact absurd h h1
theorem frac_ln' {n d a b : Nat} (hd : d ≠ 0) (h1 : n ≤ 10 ^ a) (h2 : d ≤ 10 ^ b) : Ln a b ((n : Rat) / (d : Rat)) := by
  have e : (n : Rat) / (d : Rat) = mkRat (n : Int) d := by rw [Rat.mkRat_eq_div, Rat.intCast_natCast]
  rw [e]
  exact FZ.ln (D := d) (M := n) ⟨hd, (n : Int), by omega, rfl⟩ h1 h2
theorem tailQ_ln {n m k : Nat} (hn : n ≤ 60) (hm : m ≤ 1000) (hk : k ≤ n + 1) : Ln 180 180 (tailQ n m k) := by
  have hp : (1000 : Nat) ^ n ≤ 10 ^ 180 := by
    have h1 : (1000 : Nat) = 10 ^ 3 := by decide
    rw [h1, ← Nat.pow_mul]; exact ten_le (by omega)
  exact frac_ln' (by have := Nat.pow_pos (n := n) (show 0 < 1000 by decide); omega) (Nat.le_trans (tailN_le n m hm hk) hp) hp
theorem rest_ln {n m k : Nat} (hn : n ≤ 60) (hm : m ≤ 1000) (hk : k ≤ n + 1) : Ln 400 400 (1 - tailQ n m k) :=
  ((Ln.int (z := 1) (a := 0) (by decide)).sub (tailQ_ln hn hm hk)).mono (by decide) (by decide)
theorem miss_ln {a b : ByteArray} (h : missF a b = 0) : Ln 4000 4000 (rQ a b) := (show_back (miss_ok h).1).2.2.ln
theorem half_ln {a b : ByteArray} (h : missF a b = 0) : Ln 4001 4001 (rQ a b / 2) :=
  ((miss_ln h).div (Ln.int (z := 2) (a := 1) (by decide)) (by decide)).mono (by decide) (by decide)
/-- the rounds of counting up -/
def upLo (n m : Nat) (h : Rat) (k : Nat) : Prop := k ≤ n ∧ ∀ i, 1 ≤ i → i ≤ k → tailQ n m i ≤ h
theorem upLo.zero (n m : Nat) (h : Rat) : upLo n m h 0 := ⟨Nat.zero_le _, fun i h1 h2 => by omega⟩
theorem upLo.next {n m : Nat} {h : Rat} {k : Nat} (u : upLo n m h k) (hk : k < n) (ht : tailQ n m (k + 1) ≤ h) : upLo n m h (k + 1) :=
  ⟨hk, fun i h1 h2 => by
    by_cases e : i = k + 1
    · rw [e]; exact ht
    · exact u.2 i h1 (by omega)⟩
theorem upLo.done {n m : Nat} {q : Rat} {k : Nat} (u : upLo n m (q / 2) k) (hk : k = n ∨ ¬ tailQ n m (k + 1) ≤ q / 2) : k = loR n m q := (lowV_up n m (q / 2) u.1 u.2 hk).symm
def upHi (n m : Nat) (h : Rat) (k : Nat) : Prop := 1 ≤ k ∧ k ≤ n + 1 ∧ ∀ i, 1 ≤ i → i < k → ¬ 1 - h ≤ tailQ n m i
theorem upHi.one (n m : Nat) (h : Rat) : upHi n m h 1 := ⟨Nat.le_refl _, by omega, fun i h1 h2 => by omega⟩
theorem upHi.next {n m : Nat} {h : Rat} {k : Nat} (hm : m ≤ 1000) (h0 : 0 < h) (u : upHi n m h k) (ht : h < 1 - tailQ n m k) : upHi n m h (k + 1) := by
  refine ⟨by omega, ?_, fun i h1 h2 => ?_⟩
  · by_cases e : k = n + 1
    · rw [e, tailQ_all n m hm] at ht; exfalso; grind
    · have := u.2.1; omega
  · by_cases e : i = k
    · rw [e]; grind
    · exact u.2.2 i h1 (by omega)
theorem upHi.done {n m : Nat} {q : Rat} {k : Nat} (u : upHi n m (q / 2) k) (ht : ¬ q / 2 < 1 - tailQ n m k) : k = hiR n m q :=
  (highV_up n m (1 - q / 2) (d := n + 1) (j := n) u.1 u.2.2 (fun _ => by grind) (fun h => by have := u.2.1; omega)).symm
theorem cmpQ_le {x y : Rat} : decide (cmpQ x y ≤ 0) = decide (x ≤ y) := by
  rw [decide_eq_decide]
  have h := cmpQ_neg (x := y) (y := x)
  have h2 : cmpQ x y = -cmpQ y x := by unfold cmpQ cmpZ; (repeat' split) <;> omega
  constructor
  · intro h3; exact Rat.not_lt.1 (fun h4 => by have := h.2 h4; omega)
  · intro h3; have h5 : ¬ cmpQ y x < 0 := fun h4 => absurd (h.1 h4) (Rat.not_lt.2 h3)
    omega
theorem cmpQ_gt {x y : Rat} : decide (0 < cmpQ x y) = decide (y < x) := by
  rw [decide_eq_decide]
  have h := cmpQ_neg (x := y) (y := x)
  have h2 : cmpQ x y = -cmpQ y x := by unfold cmpQ cmpZ; (repeat' split) <;> omega
  rw [← h]; omega
/-- the rounds of counting down -/
def dnLo (n m : Nat) (h : Rat) (L k low : Nat) : Prop := if low = 0 then lowV n m h k = L else low = L
theorem dnLo.start (n m : Nat) (q : Rat) : dnLo n m (q / 2) (loR n m q) n 0 := by unfold dnLo; rw [if_pos rfl]; rfl
theorem dnLo.take {n m : Nat} {h : Rat} {L k : Nat} (d : dnLo n m h L (k + 1) 0) (ht : tailQ n m (k + 1) ≤ h) : dnLo n m h L k (k + 1) := by
  unfold dnLo at d ⊢; rw [if_pos rfl] at d; rw [if_neg (by omega), ← d]; unfold lowV; rw [if_pos ht]
theorem dnLo.keep {n m : Nat} {h : Rat} {L k low : Nat} (d : dnLo n m h L (k + 1) low) (hl : low ≠ 0) : dnLo n m h L k low := by
  unfold dnLo at d ⊢; rw [if_neg hl] at d ⊢; exact d
theorem dnLo.done {n m : Nat} {h : Rat} {L low : Nat} (d : dnLo n m h L 0 low) : low = L := by
  unfold dnLo at d; split at d
  · rename_i e; rw [e]; exact d
  · exact d
end Nm
end Go.Proofs.YtiieckboccbhhaaGreatDoor
