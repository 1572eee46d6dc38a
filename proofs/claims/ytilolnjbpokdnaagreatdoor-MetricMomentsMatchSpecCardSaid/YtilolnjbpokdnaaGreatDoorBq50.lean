/- readPlan of package decide. Decimal of package value. Printed by gen_dec.py. readAll of package decide. Printed by gen_sevb.py. Together of both. Printed by gen_sevt.py. Arithmetic of package metric: within, whole, times, minus, over; the number with the other sign. Printed by gen_meta.py. Plain: the moments of pairs: faults, sums in their order, and how great they are. No program stands in it. Plain: moments as texts and as numbers: their faults, their sizes. No program stands in it. Rows: blocks of which all cells are known; a whole row read, and written. No program stands in it. -/
import Derived.Test.YtilolnjbpokdnaaGreatDoorBq37
import Derived.Test.YtilolnjbpokdnaaGreatDoorBq00
import Derived.Test.YtilolnjbpokdnaaGreatDoorBq26
import Derived.Test.YtilolnjbpokdnaaGreatDoorProg
import Derived.Test.YtilolnjbpokdnaaGreatDoorBq03
import Derived.Test.YtilolnjbpokdnaaGreatDoorBq04
import Derived.Test.YtilolnjbpokdnaaGreatDoorBq05
import Derived.Test.YtilolnjbpokdnaaGreatDoorBq06
import Derived.Test.YtilolnjbpokdnaaGreatDoorBq07
import Derived.Test.YtilolnjbpokdnaaGreatDoorBq08
import Derived.Test.YtilolnjbpokdnaaGreatDoorBq09
import Derived.Test.YtilolnjbpokdnaaGreatDoorBq10
import Derived.Test.YtilolnjbpokdnaaGreatDoorBq11
import Derived.Test.YtilolnjbpokdnaaGreatDoorBq12
import Derived.Test.YtilolnjbpokdnaaGreatDoorBq19
import Derived.Test.YtilolnjbpokdnaaGreatDoorBq21
import Derived.Test.YtilolnjbpokdnaaGreatDoorBq20
import Derived.Test.YtilolnjbpokdnaaGreatDoorBq13
import Derived.Test.YtilolnjbpokdnaaGreatDoorBq14
import Derived.Test.YtilolnjbpokdnaaGreatDoorBq15
import Derived.Test.YtilolnjbpokdnaaGreatDoorBq16
import Derived.Test.YtilolnjbpokdnaaGreatDoorBq17
import Derived.Test.YtilolnjbpokdnaaGreatDoorBq18
import Derived.Test.YtilolnjbpokdnaaGreatDoorShelf
import Derived.Test.YtilolnjbpokdnaaGreatDoorBq22
import Derived.Test.YtilolnjbpokdnaaGreatDoorBq23
import Derived.Test.YtilolnjbpokdnaaGreatDoorBq24
import Derived.Test.YtilolnjbpokdnaaGreatDoorBq25
import Derived.Deep.WholeRow
import Derived.Laws.CopyOwn
namespace Go.Proofs.YtilolnjbpokdnaaGreatDoor
open Go.RowKit
namespace Nm
def rtOk (r : RT) : Prop := r.n.size ≤ maxLen ∧ r.d.size ≤ maxLen
end Nm
end Go.Proofs.YtilolnjbpokdnaaGreatDoor
namespace Go.Proofs.YtilolnjbpokdnaaGreatDoor
open Go.RowKit
namespace Nm
def TP.num (n : Nat) : TP := ⟨fun w v => N w v n, fun _ _ _ hb h => h.ext hb⟩
def XIf (w : World) (n d : ByteArray) (v : Value) : Prop := rF n d = 0 → XR w v (rQ n d)
theorem XIf.ext {w w' : World} {n d : ByteArray} {v : Value} (h : XIf w n d v) (hb : Below w.heap.size w w') : XIf w' n d v := fun h0 => (h h0).ext hb
end Nm
end Go.Proofs.YtilolnjbpokdnaaGreatDoor
namespace Go.Proofs.YtilolnjbpokdnaaGreatDoor
open Go.RowKit
namespace Nm
structure Y3 where
 b : Bool
 a1 : Option Addr
 n1 : Nat
 c1 : Nat
 a2 : Option Addr
 n2 : Nat
 c2 : Nat
def y3L (t : Y3) : List Value := [.bool t.b, .slice t.a1 t.n1 t.c1, .slice t.a2 t.n2 t.c2]
def y3V (t : Y3) : Value := xv t.b t.a1 t.n1 t.c1 t.a2 t.n2 t.c2
/-- numbers read so far, in a row of the call's own -/
structure XL (w wr : World) (base : Nat) (gs : List RT) (v : Value) (k : Nat) (xs : List Y3) : Prop where
 low : Below w.heap.size w wr
 own : wr.ownsRow base 93 3 v k (xs.flatMap y3L)
 q : RowQ NW wr v
 len : xs.length = k
 ok : ∀ (i : Nat) x r, xs[i]? = some x → gs[i]? = some r → XR wr (y3V x) (rQ r.n r.d)
 bs : base ≤ wr.heap.size
 lw : w.heap.size ≤ base
theorem XL.ext {w wr w' : World} {base : Nat} {gs : List RT} {v : Value} {k : Nat} {xs : List Y3} (h : XL w wr base gs v k xs) (hb : Below wr.heap.size wr w') : XL w w' base gs v k xs :=
 ⟨ext_trans h.low hb, ownsRow_ext h.own hb, h.q.ext h.own hb, h.len, fun i x r h1 h2 => (h.ok i x r h1 h2).ext hb, Nat.le_trans h.bs hb.size, h.lw⟩
theorem XL.push {w wr w' : World} {base : Nat} {gs : List RT} {v v' : Value} {k : Nat} {xs : List Y3} (h : XL w wr base gs v k xs) (x : Y3) (hg : wr.grownBy w' v.ownBlock)
  (hown : w'.ownsRow base 93 3 v' (k + 1) (xs.flatMap y3L ++ y3L x)) (hq : RowQ NW w' v') {r : RT} (hr : gs[k]? = some r) (hx : XR wr (y3V x) (rQ r.n r.d)) : XL w w' base gs v' (k + 1) (xs ++ [x]) := by
 have lt : ∀ q, v.ownBlock = some q → base ≤ q := fun q e => (h.own.lt q e).1
 have h1 := h.lw
 refine ⟨h.low.grown hg h.low.size (fun q e => by have := lt q e; omega), ?_, hq, by rw [List.length_append, h.len]; rfl, ?_, Nat.le_trans h.bs hg.size, h1⟩
 ·rw [List.flatMap_append]; simpa using hown
 ·intro i x' r' e1 e2
  rcases Nat.lt_or_ge i k with hi | hi
  ·rw [List.getElem?_append_left (by rw [h.len]; exact hi)] at e1
   exact (h.ok i x' r' e1 e2).keepQ h.q hg
  ·rw [List.getElem?_append_right (by rw [h.len]; exact hi), h.len] at e1
   have hi' : i - k = 0 := by
    rcases Nat.eq_zero_or_pos (i - k) with h0 | h0
    ·exact h0
    ·rw [List.getElem?_eq_none (by simp; omega)] at e1; cases e1
   rw [hi'] at e1
   obtain rfl : x = x' := by simpa using e1
   have hik : i = k := by omega
   subst hik
   rw [hr] at e2
   cases e2
   exact hx.keepQ h.q hg
/-- numbers that lie in memory as the ratios of a list say -/
structure XsOf (w : World) (gs : List RT) (xs : List Y3) (a : Option Addr) (c : Nat) : Prop where
 len : xs.length = gs.length
 sl : Sl w (.slice a xs.length c) xs.length (xs.flatMap y3L)
 ok : ∀ (i : Nat) x r, xs[i]? = some x → gs[i]? = some r → XR w (y3V x) (rQ r.n r.d)
theorem XsOf.ext {w w' : World} {gs : List RT} {xs : List Y3} {a : Option Addr} {c : Nat} (h : XsOf w gs xs a c) (hb : Below w.heap.size w w') : XsOf w' gs xs a c :=
 ⟨h.len, h.sl.ext hb, fun i x r h1 h2 => (h.ok i x r h1 h2).ext hb⟩
def XsIf (w : World) (f : Int) (gs : List RT) (xs : List Y3) (a : Option Addr) (c : Nat) : Prop := f = 0 → XsOf w gs xs a c
theorem XsIf.ext {w w' : World} {f : Int} {gs : List RT} {xs : List Y3} {a : Option Addr} {c : Nat} (h : XsIf w f gs xs a c) (hb : Below w.heap.size w w') : XsIf w' f gs xs a c := fun h0 => (h h0).ext hb
end Nm
end Go.Proofs.YtilolnjbpokdnaaGreatDoor
namespace Go.Proofs.YtilolnjbpokdnaaGreatDoor
open Go.RowKit
namespace Nm
/-- a product of k evidences -/
def PrOk (k : Nat) (p : Rat) : Prop := Ln (100 * k) (100 * k) p
theorem PrOk.one : PrOk 0 1 := by
 have h := Ln.nat (n := 1) (a := 0) (by decide)
 exact h
theorem PrOk.mul {k : Nat} {p q : Rat} (h : PrOk k p) (hq : Ln 100 100 q) : PrOk (k + 1) (p * q) := (Ln.mul h hq).mono (by omega) (by omega)
theorem PrOk.fits {k : Nat} {p : Rat} (h : PrOk k p) (hk : k ≤ 10) : Fits p := Ln.fits h (by omega) (by omega)
theorem PrOk.small {k : Nat} {p : Rat} (h : PrOk k p) (hk : k ≤ 10) : wlen p.num.natAbs ≤ 6000 ∧ wlen p.den ≤ 6000 := Ln.small h (by omega) (by omega)
def y3C (t : Y3) : Array Value := #[.bool t.b, .slice t.a1 t.n1 t.c1, .slice t.a2 t.n2 t.c2]
/-- a number in a block of the call's own that may be written -/
def Acc (w : World) (b : Nat) (s : Rat) : Prop := (∃ t, Box w b (y3C t) ∧ XR w (y3V t) s) ∧ Fre w b
theorem Acc.ext {w w' : World} {b : Nat} {s : Rat} (h : Acc w b s) (hb : Below w.heap.size w w') : Acc w' b s := by
 obtain ⟨⟨t, h1, h2⟩, h3⟩ := h
 exact ⟨⟨t, h1.ext hb, h2.ext hb⟩, h3.ext h1 hb⟩
/-- the world since W0: what lay below b is as it was -/
def Since (b : Nat) (W0 w : World) : Prop := Below b W0 w ∧ b ≤ w.heap.size
theorem Since.ext {b : Nat} {W0 w w' : World} (h : Since b W0 w) (hb : Below w.heap.size w w') : Since b W0 w' := ⟨h.1.trans (hb.mono h.2), Nat.le_trans h.2 hb.size⟩
end Nm
namespace Nt
open _root_.Go.Proofs.YtilolnjbpokdnaaGreatDoor.Nm (rF rQ showN showD Fits RT rtOk AnsPost PrOk PrOk.one PrOk.mul PrOk.fits Ln)
end Nt
end Go.Proofs.YtilolnjbpokdnaaGreatDoor
namespace Go.Proofs.YtilolnjbpokdnaaGreatDoor
open Go.RowKit
namespace Nm
def TP.xq (q : Rat) : TP := ⟨fun w v => XR w v q, fun _ _ _ hb h => h.ext hb⟩
/-- a number that the program can reckon with -/
def Sm (q : Rat) : Prop := wlen q.num.natAbs ≤ 100000000 ∧ wlen q.den ≤ 100000000
theorem Ln.sm {a b : Nat} {q : Rat} (h : Ln a b q) (ha : a ≤ 5000) (hb : b ≤ 5000) : Sm q := by
 have := Ln.small h ha hb
 exact ⟨by omega, by omega⟩
theorem mwithin_yes (n low high : Int) (h1 : low ≤ n) (h2 : n ≤ high) (w : World) : Calls Tryz.prog 69 #[.int .i64 n, .int .i64 low, .int .i64 high] w fun e w' => e = .returned (.bool true) ∧ w = w' := by
 go_enter Tryz.func69, Tryz.ntmps69
 go_wp2
 go_ret
 exact ⟨rfl, rfl⟩
theorem mwithin_no (n low high : Int) (h : n < low ∨ high < n) (w : World) : Calls Tryz.prog 69 #[.int .i64 n, .int .i64 low, .int .i64 high] w fun e w' => e = .returned (.bool false) ∧ w = w' := by
 by_cases h1 : n < low
 ·clear h
  go_enter Tryz.func69, Tryz.ntmps69
  go_wp2
  go_ret
  exact ⟨rfl, rfl⟩
 ·have h2 : decide (n ≤ high) = false := decide_eq_false (by omega)
  have h3 : low ≤ n := by omega
  clear h h1
  go_enter Tryz.func69, Tryz.ntmps69
  go_wp2
  go_ret
  exact ⟨rfl, rfl⟩
theorem Sm.inv {q : Rat} (h : Sm q) (h0 : q ≠ 0) : Sm q⁻¹ := by
 obtain ⟨f1, f2, _, _⟩ := inv_facts (fun e => h0 (Rat.num_eq_zero.1 e))
 unfold Sm; rw [f1, f2]; exact ⟨h.2, h.1⟩
theorem mwhole_at (n : Int) (h1 : -9223372036854775808 ≤ n) (h2 : n ≤ 9223372036854775807) (w : World) : Calls Tryz.prog 72 #[.int .i64 n] w (XPost w (n : Rat)) := by
 go_enter Tryz.func72, Tryz.ntmps72
 go_upto_region 1 with (fail)
 refine wp_box1r fun W hsz hbW hC hF => ?_
 clear hsz
 go_wp2_with fail
 refine (xratInt_at n h1 h2 _).mono ?_
 rintro e w2 ⟨v, rfl, hx, hb⟩
 obtain ⟨v1, v2, rfl, hn1', hn2'⟩ := hx
 have hn1 : N w2 v1 n.natAbs := hn1'
 have hn2 : N w2 v2 1 := hn2'
 obtain ⟨p1, c5, rfl, _⟩ := hn1.open_
 obtain ⟨p2, c6, rfl, _⟩ := hn2.open_
 clear hn1' hn2'
 rw [show decide ((n : Rat).num < 0) = decide (n < 0) from rfl]
 have hC3 := hC.ext hb
 have hF3 := hF.ext hC hb
 have hbw := ext_trans hbW hb
 have hle : w.heap.size ≤ w.heap.size := Nat.le_refl _
 have g0 := hF3 0
 have g1 := hF3 1
 have g2 := hF3 2
 obtain ⟨r0, r1, r2⟩ := boxX hC3
 obtain ⟨k1, k2, k3, z0, z1, z2⟩ := res3 (decide (n < 0)) hC3 hn1 hn2 hbw hle
 have HK := Lib.hid (And.intro k1 (And.intro k2 k3))
 clear k1 k2 k3
 go_wp2
 exact bodyPost_ret (v := .agg #[.bool (decide (n < 0)), .slice p1 (digs n.natAbs).length c5, .slice p2 (digs 1).length c6]) (by simp [results, Tryz.results72, go_sem, z0, z1, z2]) rfl ⟨_, rfl, ⟨_, _, rfl, HK.out.1, HK.out.2.1⟩, HK.out.2.2⟩
theorem mwhole_is (z : Int) (q : Rat) (hq : (z : Rat) = q) (h1 : -9223372036854775808 ≤ z) (h2 : z ≤ 9223372036854775807) (w : World) : Calls Tryz.prog 72 #[.int .i64 z] w (XPost w q) := by
 subst hq; exact mwhole_at z h1 h2 w
theorem xplus_sm (x y q : Rat) (hq : x + y = q) (v u : Value) (w : World) (hx : XR w v x) (hy : XR w u y) (l1 : Sm x) (l2 : Sm y) : Calls Tryz.prog 71 #[v, u] w (XPost w q) := by
 subst hq; exact xplus_at x y v u w hx hy l1.1 l1.2 l2.1 l2.2
end Nm
end Go.Proofs.YtilolnjbpokdnaaGreatDoor
namespace Go.Proofs.YtilolnjbpokdnaaGreatDoor
open Go.RowKit
namespace Nm
/-- a pair of outcomes -/
structure PX where
  x : Int
  y : Int
def okX (x : Int) : Bool := decide (-20000000000000000 ≤ x) && decide (x ≤ 20000000000000000)
theorem okX_iff {x : Int} : okX x = true ↔ -20000000000000000 ≤ x ∧ x ≤ 20000000000000000 := by unfold okX; simp
def okP (p : PX) : Bool := okX p.x && okX p.y
theorem okP_iff {p : PX} : okP p = true ↔ (-20000000000000000 ≤ p.x ∧ p.x ≤ 20000000000000000) ∧ -20000000000000000 ≤ p.y ∧ p.y ≤ 20000000000000000 := by
  unfold okP; rw [Bool.and_eq_true, okX_iff, okX_iff]
/-- five sums -/
structure M5 where
  x : Int
  y : Int
  xx : Int
  yy : Int
  xy : Int
def m5z : M5 := ⟨0, 0, 0, 0, 0⟩
def m5s (m : M5) (p : PX) : M5 := ⟨m.x + p.x, m.y + p.y, m.xx + p.x * p.x, m.yy + p.y * p.y, m.xy + p.x * p.y⟩
/-- the sums of k pairs that are right -/
structure M5Ok (k : Nat) (m : M5) : Prop where
  x : m.x.natAbs ≤ 20000000000000000 * k
  y : m.y.natAbs ≤ 20000000000000000 * k
  xx : m.xx.natAbs ≤ 400000000000000000000000000000000 * k
  yy : m.yy.natAbs ≤ 400000000000000000000000000000000 * k
  xy : m.xy.natAbs ≤ 400000000000000000000000000000000 * k
theorem M5Ok.zero : M5Ok 0 m5z := ⟨Nat.le_refl _, Nat.le_refl _, Nat.le_refl _, Nat.le_refl _, Nat.le_refl _⟩
theorem mul_b {x y : Int} (hx : x.natAbs ≤ 20000000000000000) (hy : y.natAbs ≤ 20000000000000000) : (x * y).natAbs ≤ 400000000000000000000000000000000 := by
  rw [Int.natAbs_mul]; exact Nat.mul_le_mul hx hy
theorem M5Ok.step {k : Nat} {m : M5} (h : M5Ok k m) {p : PX} (hp : okP p = true) : M5Ok (k + 1) (m5s m p) := by
  have hb := okP_iff.1 hp
  have hx : p.x.natAbs ≤ 20000000000000000 := by omega
  have hy : p.y.natAbs ≤ 20000000000000000 := by omega
  obtain ⟨h1, h2, h3, h4, h5⟩ := h
  have e : ∀ (a b : Int) (B : Nat), a.natAbs ≤ B * k → b.natAbs ≤ B → (a + b).natAbs ≤ B * (k + 1) := fun a b B ha hb' => by
    rw [Nat.mul_succ]
    exact Nat.le_trans (Int.natAbs_add_le a b) (Nat.add_le_add ha hb')
  exact ⟨e _ _ _ h1 hx, e _ _ _ h2 hy, e _ _ _ h3 (mul_b hx hx), e _ _ _ h4 (mul_b hy hy), e _ _ _ h5 (mul_b hx hy)⟩
theorem int_ln {z : Int} (h : z.natAbs ≤ 400000000000000000000000000000000 * 20000) : Ln 40 0 (z : Rat) := Ln.int (Nat.le_trans h (by decide))
/-- all five are whole numbers of few digits -/
structure M5Ln (m : M5) : Prop where
  x : Ln 40 0 (m.x : Rat)
  y : Ln 40 0 (m.y : Rat)
  xx : Ln 40 0 (m.xx : Rat)
  yy : Ln 40 0 (m.yy : Rat)
  xy : Ln 40 0 (m.xy : Rat)
theorem M5Ok.ln {k : Nat} {m : M5} (h : M5Ok k m) (hk : k ≤ 20000) : M5Ln m := by
  obtain ⟨h1, h2, h3, h4, h5⟩ := h
  have e : ∀ {B : Nat} {z : Int}, z.natAbs ≤ B * k → B ≤ 400000000000000000000000000000000 → Ln 40 0 (z : Rat) := fun hz hB => int_ln (Nat.le_trans hz (Nat.mul_le_mul hB hk))
  exact ⟨e h1 (by decide), e h2 (by decide), e h3 (by decide), e h4 (by decide), e h5 (by decide)⟩
theorem Ln40.fits {q : Rat} (h : Ln 40 0 q) : Fits q := Ln.fits h (by omega) (by omega)
theorem Ln40.sm {q : Rat} (h : Ln 40 0 q) : Sm q := Ln.sm h (by omega) (by omega)
end Nm
end Go.Proofs.YtilolnjbpokdnaaGreatDoor
namespace Go.Proofs.YtilolnjbpokdnaaGreatDoor
open Go.RowKit
namespace Nm
/-- five sums -/
structure Q5 where
  x : Rat
  y : Rat
  xx : Rat
  yy : Rat
  xy : Rat
def Q5.l (q : Q5) : List Rat := [q.x, q.y, q.xx, q.yy, q.xy]
/-- the texts of five sums -/
structure R5 where
  x : RT
  y : RT
  xx : RT
  yy : RT
  xy : RT
def R5.l (r : R5) : List RT := [r.x, r.y, r.xx, r.yy, r.xy]
def R5.q (r : R5) : Q5 := ⟨rQ r.x.n r.x.d, rQ r.y.n r.y.d, rQ r.xx.n r.xx.d, rQ r.yy.n r.yy.d, rQ r.xy.n r.xy.d⟩
def R5.ok (r : R5) : Prop := rtOk r.x ∧ rtOk r.y ∧ rtOk r.xx ∧ rtOk r.yy ∧ rtOk r.xy
def shR (q : Rat) : RT := ⟨showN q, showD q⟩
def Q5.r (q : Q5) : R5 := ⟨shR q.x, shR q.y, shR q.xx, shR q.yy, shR q.xy⟩
/-- sums of few digits -/
structure QL (q : Q5) : Prop where
  x : Ln 100 0 q.x
  y : Ln 100 0 q.y
  xx : Ln 100 0 q.xx
  yy : Ln 100 0 q.yy
  xy : Ln 100 0 q.xy
structure QF (q : Q5) : Prop where
  x : Fits q.x
  y : Fits q.y
  xx : Fits q.xx
  yy : Fits q.yy
  xy : Fits q.xy
theorem QL.fits {q : Q5} (h : QL q) : QF q := ⟨h.x.fits (by omega) (by omega), h.y.fits (by omega) (by omega), h.xx.fits (by omega) (by omega), h.yy.fits (by omega) (by omega), h.xy.fits (by omega) (by omega)⟩
/-- a number too long to be written as a sum -/
def lgB (q : Rat) : Bool := decide (100 < (cutS (showN q)).size)
def lgL (q : Q5) : Bool := q.l.any lgB
/-- what writing sums gives -/
def wrF (q : Q5) : Int := if lgL q = true then 2 else 0
end Nm
end Go.Proofs.YtilolnjbpokdnaaGreatDoor
namespace Go.Proofs.YtilolnjbpokdnaaGreatDoor
open Go.RowKit
namespace Nt
theorem RH.free {w : World} {b : Nat} {A : Array Value} {t : TypeId} (h : RH w b A t) : Fre w b := fun j => h.fre j
theorem wp_row3 {P : Program} {c : Code} {Q : Exit → Act → World → Prop} {a : Act} {w : World} {A B C : Array Value} {t u v : TypeId}
    (h : ∀ W, Below w.heap.size w W → Box W w.heap.size A → Box W (w.heap.size + 1) B → RH W (w.heap.size + 2) C v → c.wp P Q a W) : c.wp P Q a (((w.alloc (.cells A t)).alloc (.cells B u)).alloc (.cells C v)) := by
  refine h _ (by go_grown) (((Box.new _ _ _).ext (by go_grown)).ext (by go_grown)) ?_ ?_
  · have := Box.new (w.alloc (.cells A t)) B u
    exact Box.ext (by simpa using this) (by go_grown)
  · have := RH.new ((w.alloc (.cells A t)).alloc (.cells B u)) C v
    simpa using this
end Nt
open Nt (RH RH.cell RH.other)
theorem zs2 {w : World} {b : Nat} {t : TypeId} {a0 a1 : Value} (h : RH w b #[a0, a1] t) : w.cell? ⟨b, 0, none⟩ = some a0 ∧ w.cell? ⟨b, 1, none⟩ = some a1 := ⟨(h.cell 0).trans rfl, (h.cell 1).trans rfl⟩
theorem zs4 {w : World} {b : Nat} {t : TypeId} {a0 a1 a2 a3 : Value} (h : RH w b #[a0, a1, a2, a3] t) : w.cell? ⟨b, 0, none⟩ = some a0 ∧ w.cell? ⟨b, 1, none⟩ = some a1 ∧ w.cell? ⟨b, 2, none⟩ = some a2 ∧ w.cell? ⟨b, 3, none⟩ = some a3 := ⟨(h.cell 0).trans rfl, (h.cell 1).trans rfl, (h.cell 2).trans rfl, (h.cell 3).trans rfl⟩
theorem zs16 {w : World} {b : Nat} {t : TypeId} {a0 a1 a2 a3 a4 a5 a6 a7 a8 a9 a10 a11 a12 a13 a14 a15 : Value} (h : RH w b #[a0, a1, a2, a3, a4, a5, a6, a7, a8, a9, a10, a11, a12, a13, a14, a15] t) : w.cell? ⟨b, 0, none⟩ = some a0 ∧ w.cell? ⟨b, 1, none⟩ = some a1 ∧ w.cell? ⟨b, 2, none⟩ = some a2 ∧ w.cell? ⟨b, 3, none⟩ = some a3 ∧ w.cell? ⟨b, 4, none⟩ = some a4 ∧ w.cell? ⟨b, 5, none⟩ = some a5 ∧ w.cell? ⟨b, 6, none⟩ = some a6 ∧ w.cell? ⟨b, 7, none⟩ = some a7 ∧ w.cell? ⟨b, 8, none⟩ = some a8 ∧ w.cell? ⟨b, 9, none⟩ = some a9 ∧ w.cell? ⟨b, 10, none⟩ = some a10 ∧ w.cell? ⟨b, 11, none⟩ = some a11 ∧ w.cell? ⟨b, 12, none⟩ = some a12 ∧ w.cell? ⟨b, 13, none⟩ = some a13 ∧ w.cell? ⟨b, 14, none⟩ = some a14 ∧ w.cell? ⟨b, 15, none⟩ = some a15 := ⟨(h.cell 0).trans rfl, (h.cell 1).trans rfl, (h.cell 2).trans rfl, (h.cell 3).trans rfl, (h.cell 4).trans rfl, (h.cell 5).trans rfl, (h.cell 6).trans rfl, (h.cell 7).trans rfl, (h.cell 8).trans rfl, (h.cell 9).trans rfl, (h.cell 10).trans rfl, (h.cell 11).trans rfl, (h.cell 12).trans rfl, (h.cell 13).trans rfl, (h.cell 14).trans rfl, (h.cell 15).trans rfl⟩
theorem zzo {w : World} {b d j : Nat} {A : Array Value} {t : TypeId} {v : Value} (h : RH w b A t) (hne : b ≠ d) : RH (w.setCell ⟨d, j, none⟩ v) b A t := h.other hne v
theorem zzw {w w' : World} {n b j : Nat} {v : Value} (h : Below n w w') (hn : n ≤ b) : Below n w (w'.setCell ⟨b, j, none⟩ v) := h.setCell hn v
end Go.Proofs.YtilolnjbpokdnaaGreatDoor
