/- Plain: how long the numbers of a calculation can be. No program stands in it. Whole, Plus, Times, Minus, Over, Less of the references: on numbers that are short enough. IsShort, IsMiss, CheckTest, enough of the references. Printed by gen_rdec.py. Plain: the evidence as a number: it starts at 1, is never below 0, and a pair leaves it as it is on average. Several evidences: what is right, in plain words. Decimal of package value. Printed by gen_dec.py. readAll of package decide. Printed by gen_sevb.py. Together of both. Printed by gen_sevt.py. Plain: Mismatch: its faults, its sum in the order in which it is summed, and how long its numbers are. No program stands in it. Plain: the mismatch is 0 just if all counts have their shares, and doubled weights do not change it; in the words of the walks (misF, misQ). No program stands in it. -/
import Derived.Test.YtilolnjbpokdnaaDoorBh03
import Derived.Test.YtilolnjbpokdnaaDoorBh08
import Derived.Test.YtilolnjbpokdnaaDoorBh18
import Derived.Test.YtilolnjbpokdnaaDoorBh10
import Derived.Test.YtilolnjbpokdnaaDoorBh02
import Derived.Test.YtilolnjbpokdnaaDoorBh09
import Derived.Deep.Cut
import Derived.Test.YtilolnjbpokdnaaDoorBh17
import Derived.Test.YtilolnjbpokdnaaDoorBh00
import Derived.Test.YtilolnjbpokdnaaDoorBh16
namespace Go.Proofs.YtilolnjbpokdnaaDoor
namespace Nm
/-- q is m / D, m not above M, of any sign -/
def FZ (D M : Nat) (q : Rat) : Prop := D ≠ 0 ∧ ∃ m : Int, m.natAbs ≤ M ∧ q = mkRat m D
/-- bounds of the numerator and of the denominator -/
def Bd (A B : Nat) (q : Rat) : Prop := q.num.natAbs ≤ A ∧ q.den ≤ B
theorem FZ.zero {D : Nat} (hD : D ≠ 0) (M : Nat) : FZ D M 0 := ⟨hD, 0, Nat.zero_le _, by simp⟩
theorem FZ.mono {D M M' : Nat} {q : Rat} (h : FZ D M q) (hM : M ≤ M') : FZ D M' q := by
  obtain ⟨hD, m, hm, rfl⟩ := h; exact ⟨hD, m, Nat.le_trans hm hM, rfl⟩
theorem FZ.scale {D M : Nat} {q : Rat} (h : FZ D M q) {c : Nat} (hc : c ≠ 0) : FZ (D * c) (M * c) q := by
  obtain ⟨hD, m, hm, rfl⟩ := h
  refine ⟨Nat.mul_ne_zero hD hc, m * (c : Int), ?_, ?_⟩
  · rw [Int.natAbs_mul, Int.natAbs_natCast]; exact Nat.mul_le_mul_right _ hm
  · rw [Rat.mkRat_mul_right hc]
theorem FZ.add {D M N : Nat} {p q : Rat} (h : FZ D M p) (k : FZ D N q) : FZ D (M + N) (p + q) := by
  obtain ⟨hD, m, hm, rfl⟩ := h
  obtain ⟨_, n, hn, rfl⟩ := k
  refine ⟨hD, m + n, by omega, ?_⟩
  rw [Rat.mkRat_add_mkRat _ _ hD hD, ← Int.add_mul, Rat.mkRat_mul_right hD]
theorem FZ.neg {D M : Nat} {q : Rat} (h : FZ D M q) : FZ D M (-q) := by
  obtain ⟨hD, m, hm, rfl⟩ := h
  exact ⟨hD, -m, by omega, by rw [Rat.neg_mkRat]⟩
theorem FZ.sub {D M N : Nat} {p q : Rat} (h : FZ D M p) (k : FZ D N q) : FZ D (M + N) (p - q) := by
  rw [Rat.sub_eq_add_neg]; exact h.add k.neg
theorem FZ.mul {D E M N : Nat} {p q : Rat} (h : FZ D M p) (k : FZ E N q) : FZ (D * E) (M * N) (p * q) := by
  obtain ⟨hD, m, hm, rfl⟩ := h
  obtain ⟨hE, n, hn, rfl⟩ := k
  refine ⟨Nat.mul_ne_zero hD hE, m * n, ?_, ?_⟩
  · rw [Int.natAbs_mul]; exact Nat.mul_le_mul hm hn
  · rw [Rat.mkRat_mul_mkRat]
theorem FZ.int {z : Int} {M : Nat} (h : z.natAbs ≤ M) : FZ 1 M (z : Rat) := ⟨by omega, z, h, by rw [Rat.mkRat_one]⟩
theorem FZ.nat {n M : Nat} (h : n ≤ M) : FZ 1 M ((n : Nat) : Rat) := ⟨by omega, (n : Int), h, by rw [Rat.mkRat_one, Rat.intCast_natCast]⟩
theorem FZ.bd {D M : Nat} {q : Rat} (h : FZ D M q) : Bd M D q := by
  obtain ⟨hD, m, hm, rfl⟩ := h
  have e : mkRat m D = Rat.normalize (sgn (decide (m < 0)) m.natAbs) D hD := by rw [Rat.normalize_eq_mkRat, sgn_self]
  unfold Bd
  rw [e, norm_abs, norm_den]
  exact ⟨Nat.le_trans (Nat.div_le_self _ _) hm, Nat.div_le_self _ _⟩
theorem Bd.mono {A B A' B' : Nat} {q : Rat} (h : Bd A B q) (h1 : A ≤ A') (h2 : B ≤ B') : Bd A' B' q := ⟨Nat.le_trans h.1 h1, Nat.le_trans h.2 h2⟩
theorem Bd.self (q : Rat) : FZ q.den q.num.natAbs q := ⟨q.den_nz, q.num, Nat.le_refl _, (Rat.mkRat_self q).symm⟩
theorem Bd.int {z : Int} {M : Nat} (h : z.natAbs ≤ M) : Bd M 1 (z : Rat) := (FZ.int h).bd
theorem Bd.nat {n M : Nat} (h : n ≤ M) : Bd M 1 ((n : Nat) : Rat) := (FZ.nat h).bd
theorem Bd.mul {A B A' B' : Nat} {p q : Rat} (h : Bd A B p) (k : Bd A' B' q) : Bd (A * A') (B * B') (p * q) :=
  ((Bd.self p).mul (Bd.self q)).bd.mono (Nat.mul_le_mul h.1 k.1) (Nat.mul_le_mul h.2 k.2)
theorem Bd.neg {A B : Nat} {q : Rat} (h : Bd A B q) : Bd A B (-q) := (Bd.self q).neg.bd.mono h.1 h.2
theorem Bd.add {A B A' B' : Nat} {p q : Rat} (h : Bd A B p) (k : Bd A' B' q) : Bd (A * B' + A' * B) (B * B') (p + q) := by
  have h1 := (Bd.self p).scale (c := q.den) q.den_nz
  have h2 := (Bd.self q).scale (c := p.den) p.den_nz
  rw [Nat.mul_comm q.den p.den] at h2
  exact (h1.add h2).bd.mono (Nat.add_le_add (Nat.mul_le_mul h.1 k.2) (Nat.mul_le_mul k.1 h.2)) (Nat.mul_le_mul h.2 k.2)
theorem Bd.sub {A B A' B' : Nat} {p q : Rat} (h : Bd A B p) (k : Bd A' B' q) : Bd (A * B' + A' * B) (B * B') (p - q) := by
  rw [Rat.sub_eq_add_neg]; exact h.add k.neg
theorem Bd.inv {A B : Nat} {q : Rat} (h : Bd A B q) (h0 : q ≠ 0) : Bd B A q⁻¹ := by
  have hn : q.num ≠ 0 := fun e => h0 (Rat.num_eq_zero.1 e)
  obtain ⟨f1, f2, _, _⟩ := inv_facts hn
  exact ⟨by rw [f1]; exact h.2, by rw [f2]; exact h.1⟩
/-- lengths: at most so many digits -/
def Ln (a b : Nat) (q : Rat) : Prop := q.num.natAbs ≤ 10 ^ a ∧ q.den ≤ 10 ^ b
theorem ten_le {a b : Nat} (h : a ≤ b) : 10 ^ a ≤ 10 ^ b := Nat.pow_le_pow_right (by decide) h
theorem ten_two {a b : Nat} : 10 ^ a + 10 ^ b ≤ 10 ^ (max a b + 1) := by
  have h1 : 10 ^ a ≤ 10 ^ max a b := ten_le (Nat.le_max_left _ _)
  have h2 : 10 ^ b ≤ 10 ^ max a b := ten_le (Nat.le_max_right _ _)
  rw [Nat.pow_succ]; omega
theorem Bd.ln {A B a b : Nat} {q : Rat} (h : Bd A B q) (h1 : A ≤ 10 ^ a) (h2 : B ≤ 10 ^ b) : Ln a b q := ⟨Nat.le_trans h.1 h1, Nat.le_trans h.2 h2⟩
theorem FZ.ln {D M a b : Nat} {q : Rat} (h : FZ D M q) (h1 : M ≤ 10 ^ a) (h2 : D ≤ 10 ^ b) : Ln a b q := h.bd.ln h1 h2
theorem Ln.mono {a b a' b' : Nat} {q : Rat} (h : Ln a b q) (h1 : a ≤ a') (h2 : b ≤ b') : Ln a' b' q := ⟨Nat.le_trans h.1 (ten_le h1), Nat.le_trans h.2 (ten_le h2)⟩
theorem Ln.mul {a b a' b' : Nat} {p q : Rat} (h : Ln a b p) (k : Ln a' b' q) : Ln (a + a') (b + b') (p * q) :=
  (Bd.mul h k).ln (by rw [Nat.pow_add]; exact Nat.le_refl _) (by rw [Nat.pow_add]; exact Nat.le_refl _)
theorem Ln.neg {a b : Nat} {q : Rat} (h : Ln a b q) : Ln a b (-q) := Bd.neg h
theorem Ln.add {a b a' b' : Nat} {p q : Rat} (h : Ln a b p) (k : Ln a' b' q) : Ln (max (a + b') (a' + b) + 1) (b + b') (p + q) :=
  (Bd.add h k).ln (by rw [← Nat.pow_add, ← Nat.pow_add]; exact ten_two) (by rw [Nat.pow_add]; exact Nat.le_refl _)
theorem Ln.sub {a b a' b' : Nat} {p q : Rat} (h : Ln a b p) (k : Ln a' b' q) : Ln (max (a + b') (a' + b) + 1) (b + b') (p - q) := by
  rw [Rat.sub_eq_add_neg]; exact h.add k.neg
theorem Ln.inv {a b : Nat} {q : Rat} (h : Ln a b q) (h0 : q ≠ 0) : Ln b a q⁻¹ := Bd.inv h h0
theorem Ln.div {a b a' b' : Nat} {p q : Rat} (h : Ln a b p) (k : Ln a' b' q) (h0 : q ≠ 0) : Ln (a + b') (b + a') (p / q) := by
  rw [Rat.div_def]; exact h.mul (k.inv h0)
theorem Ln.int {z : Int} {a : Nat} (h : z.natAbs ≤ 10 ^ a) : Ln a 0 (z : Rat) := (Bd.int h).ln (Nat.le_refl _) (Nat.le_refl _)
theorem Ln.nat {n a : Nat} (h : n ≤ 10 ^ a) : Ln a 0 ((n : Nat) : Rat) := (Bd.nat h).ln (Nat.le_refl _) (Nat.le_refl _)
end Nm
end Go.Proofs.YtilolnjbpokdnaaDoor
namespace Go.Proofs.YtilolnjbpokdnaaDoor
open Go.RowKit
namespace Nm
theorem fits_of {k : Nat} {q : Rat} (hk : 1 ≤ k) (hk' : k ≤ 4000) (h1 : q.num.natAbs < 10 ^ k) (h2 : q.den < 10 ^ k) : Fits q := ⟨Nat.le_trans (decS_length h1 hk) hk', Nat.le_trans (decS_length h2 hk) hk'⟩
theorem Ln.fits {a b : Nat} {q : Rat} (h : Ln a b q) (h1 : a < 4000) (h2 : b < 4000) : Fits q :=
  fits_of (k := max a b + 1) (by omega) (by omega) (Nat.lt_of_le_of_lt h.1 (Nat.pow_lt_pow_right (by decide) (by omega))) (Nat.lt_of_le_of_lt h.2 (Nat.pow_lt_pow_right (by decide) (by omega)))
/-- the most digits -/
def DM : Nat := 4000
theorem Fits.ln {q : Rat} (h : Fits q) : Ln DM DM q := ⟨Nat.le_of_lt (lt_of_decS (k := DM) h.1), Nat.le_of_lt (lt_of_decS (k := DM) h.2)⟩
theorem fits_int {n : Int} (h : n.natAbs ≤ 10 ^ 200) : Fits (n : Rat) := (Ln.int h).fits (by decide) (by decide)
theorem i64_ten {n : Int} (h1 : -9223372036854775808 ≤ n) (h2 : n ≤ 9223372036854775807) : n.natAbs ≤ 10 ^ 200 := Nat.le_trans (show n.natAbs ≤ 10 ^ 19 by omega) (ten_le (by decide))
theorem out_fits {q : Rat} (h : Fits q) : outN q = showN q ∧ outD q = showD q ∧ outF q = 0 := by
  unfold outN outD outF
  rw [if_pos h, if_pos h, if_pos h]; exact ⟨rfl, rfl, rfl⟩
theorem quoQ_one (n : Int) : quoQ n 1 = (n : Rat) := by
  unfold quoQ
  rw [dif_neg (by decide)]
  have h : (decide (n < 0) != decide ((1 : Int) < 0)) = decide (n < 0) := by simp
  rw [Rat.normalize_eq_mkRat, h, sgn_self]
  exact Rat.mkRat_one n
theorem quo_one {n : Int} (h : n.natAbs ≤ 10 ^ 200) : quoN n 1 = showN (n : Rat) ∧ quoD n 1 = showD (n : Rat) := by
  unfold quoN quoD
  rw [if_neg (by decide), if_neg (by decide), quoQ_one, (out_fits (fits_int h)).1, (out_fits (fits_int h)).2.1]; exact ⟨rfl, rfl⟩
end Nm
namespace Nt
open _root_.Go.Proofs.YtilolnjbpokdnaaDoor.Nm (showN showD Fits quo_one fits_int i64_ten)
/-- a ratio as a value -/
abbrev rtV (q : Rat) : Value := .agg #[.string (showN q), .string (showD q)]
def RtP (w : World) (q : Rat) (e : Ending) (w' : World) : Prop := e = .returned (rtV q) ∧ Below w.heap.size w w'
theorem mWholeQ (n : Int) (h1 : -9223372036854775808 ≤ n) (h2 : n ≤ 9223372036854775807) (w : World) (ht : Tab w) : Calls Tryd.prog 6 #[.int .i64 n] w (RtP w (n : Rat)) := by
  have h := mWhole_at n h1 h2 w ht
  have hb := i64_ten h1 h2
  rw [(quo_one hb).1, (quo_one hb).2] at h
  exact h
end Nt
end Go.Proofs.YtilolnjbpokdnaaDoor
namespace Go.Proofs.YtilolnjbpokdnaaDoor
open Go.RowKit
namespace Nt
open _root_.Go.Proofs.YtilolnjbpokdnaaDoor.Nm (showN showD Fits rF rQ cutS fits_int)
theorem fits0 : Fits 0 := fits_int (n := 0) (by decide)
theorem whole0 (w : World) (ht : Tab w) : Calls Tryd.prog 6 #[.int .i64 0] w (RtP w 0) := mWholeQ 0 (by decide) (by decide) w ht
end Nt
end Go.Proofs.YtilolnjbpokdnaaDoor
namespace Go.Proofs.YtilolnjbpokdnaaDoor
namespace Nm

theorem natCast_pos {n : Nat} (h : 0 < n) : (0 : Rat) < ((n : Nat) : Rat) := by
  have := Rat.natCast_lt_natCast.2 h
  exact this
theorem natCast_nonneg (n : Nat) : (0 : Rat) ≤ ((n : Nat) : Rat) := by
  have := (Rat.natCast_le_natCast (a := 0) (b := n)).2 (Nat.zero_le _)
  exact this
end Nm
end Go.Proofs.YtilolnjbpokdnaaDoor
namespace Go.Proofs.YtilolnjbpokdnaaDoor
open Go.RowKit
namespace Nm
theorem Ln.small {a b : Nat} {q : Rat} (h : Ln a b q) (ha : a ≤ 5000) (hb : b ≤ 5000) : wlen q.num.natAbs ≤ 6000 ∧ wlen q.den ≤ 6000 := by
  have k1 : 10 ^ a < 10 ^ (a + 1) := Nat.pow_lt_pow_right (by decide) (Nat.lt_succ_self a)
  have k2 : 10 ^ b < 10 ^ (b + 1) := Nat.pow_lt_pow_right (by decide) (Nat.lt_succ_self b)
  have h1 := wlen_dec (Nat.lt_of_le_of_lt h.1 k1)
  have h2 := wlen_dec (Nat.lt_of_le_of_lt h.2 k2)
  omega
def XIf3 (w : World) (f : Int) (v : Value) (q : Rat) : Prop := f = 0 → XR w v q
theorem XIf3.ext {w w' : World} {f : Int} {v : Value} {q : Rat} (h : XIf3 w f v q) (hb : Below w.heap.size w w') : XIf3 w' f v q := fun h0 => (h h0).ext hb
end Nm
end Go.Proofs.YtilolnjbpokdnaaDoor
namespace Go.Proofs.YtilolnjbpokdnaaDoor
open Go.RowKit
namespace Nm
def TP.num (n : Nat) : TP := ⟨fun w v => N w v n, fun _ _ _ hb h => h.ext hb⟩
def XIf (w : World) (n d : ByteArray) (v : Value) : Prop := rF n d = 0 → XR w v (rQ n d)
theorem XIf.ext {w w' : World} {n d : ByteArray} {v : Value} (h : XIf w n d v) (hb : Below w.heap.size w w') : XIf w' n d v := fun h0 => (h h0).ext hb
theorem tail_none {P : Program} {ops : Array Oper} {Q : Exit → Act → World → Prop} {a : Act} {w : World} (h : Q .normal a w) : wpList P ops Q [] a w := h
end Nm
end Go.Proofs.YtilolnjbpokdnaaDoor
namespace Go.Proofs.YtilolnjbpokdnaaDoor
open Go.RowKit
namespace Nm
structure Y3 where
 b : Bool
 a1 : Option Addr
 n1 : Nat
 c1 : Nat
 a2 : Option Addr
 n2 : Nat
 c2 : Nat
def y3L (t : Y3) : List Value := [.bool t.b, .slice t.a1 t.n1 t.c1, .slice t.a2 t.n2 t.c2]
def y3V (t : Y3) : Value := xv t.b t.a1 t.n1 t.c1 t.a2 t.n2 t.c2
/-- numbers read so far, in a row of the call's own -/
structure XL (w wr : World) (base : Nat) (gs : List RT) (v : Value) (k : Nat) (xs : List Y3) : Prop where
 low : Below w.heap.size w wr
 own : wr.ownsRow base 35 3 v k (xs.flatMap y3L)
 q : RowQ NW wr v
 len : xs.length = k
 ok : ∀ (i : Nat) x r, xs[i]? = some x → gs[i]? = some r → XR wr (y3V x) (rQ r.n r.d)
 bs : base ≤ wr.heap.size
 lw : w.heap.size ≤ base
theorem XL.ext {w wr w' : World} {base : Nat} {gs : List RT} {v : Value} {k : Nat} {xs : List Y3} (h : XL w wr base gs v k xs) (hb : Below wr.heap.size wr w') : XL w w' base gs v k xs :=
 ⟨ext_trans h.low hb, ownsRow_ext h.own hb, h.q.ext h.own hb, h.len, fun i x r h1 h2 => (h.ok i x r h1 h2).ext hb, Nat.le_trans h.bs hb.size, h.lw⟩
theorem XL.push {w wr w' : World} {base : Nat} {gs : List RT} {v v' : Value} {k : Nat} {xs : List Y3} (h : XL w wr base gs v k xs) (x : Y3) (hg : wr.grownBy w' v.ownBlock)
  (hown : w'.ownsRow base 35 3 v' (k + 1) (xs.flatMap y3L ++ y3L x)) (hq : RowQ NW w' v') {r : RT} (hr : gs[k]? = some r) (hx : XR wr (y3V x) (rQ r.n r.d)) : XL w w' base gs v' (k + 1) (xs ++ [x]) := by
 have lt : ∀ q, v.ownBlock = some q → base ≤ q := fun q e => (h.own.lt q e).1
 have h1 := h.lw
 refine ⟨h.low.grown hg h.low.size (fun q e => by have := lt q e; omega), ?_, hq, by rw [List.length_append, h.len]; rfl, ?_, Nat.le_trans h.bs hg.size, h1⟩
 ·rw [List.flatMap_append]; simpa using hown
 ·intro i x' r' e1 e2
  rcases Nat.lt_or_ge i k with hi | hi
  ·rw [List.getElem?_append_left (by rw [h.len]; exact hi)] at e1
   exact (h.ok i x' r' e1 e2).keepQ h.q hg
  ·rw [List.getElem?_append_right (by rw [h.len]; exact hi), h.len] at e1
   have hi' : i - k = 0 := by
    rcases Nat.eq_zero_or_pos (i - k) with h0 | h0
    ·exact h0
    ·rw [List.getElem?_eq_none (by simp; omega)] at e1; cases e1
   rw [hi'] at e1
   obtain rfl : x = x' := by simpa using e1
   have hik : i = k := by omega
   subst hik
   rw [hr] at e2
   cases e2
   exact hx.keepQ h.q hg
/-- numbers that lie in memory as the ratios of a list say -/
structure XsOf (w : World) (gs : List RT) (xs : List Y3) (a : Option Addr) (c : Nat) : Prop where
 len : xs.length = gs.length
 sl : Sl w (.slice a xs.length c) xs.length (xs.flatMap y3L)
 ok : ∀ (i : Nat) x r, xs[i]? = some x → gs[i]? = some r → XR w (y3V x) (rQ r.n r.d)
theorem XsOf.ext {w w' : World} {gs : List RT} {xs : List Y3} {a : Option Addr} {c : Nat} (h : XsOf w gs xs a c) (hb : Below w.heap.size w w') : XsOf w' gs xs a c :=
 ⟨h.len, h.sl.ext hb, fun i x r h1 h2 => (h.ok i x r h1 h2).ext hb⟩
def XsIf (w : World) (f : Int) (gs : List RT) (xs : List Y3) (a : Option Addr) (c : Nat) : Prop := f = 0 → XsOf w gs xs a c
theorem XsIf.ext {w w' : World} {f : Int} {gs : List RT} {xs : List Y3} {a : Option Addr} {c : Nat} (h : XsIf w f gs xs a c) (hb : Below w.heap.size w w') : XsIf w' f gs xs a c := fun h0 => (h h0).ext hb
end Nm
end Go.Proofs.YtilolnjbpokdnaaDoor
namespace Go.Proofs.YtilolnjbpokdnaaDoor
open Go.RowKit
namespace Nm
/-- a product of k evidences -/
def PrOk (k : Nat) (p : Rat) : Prop := Ln (100 * k) (100 * k) p
theorem PrOk.one : PrOk 0 1 := by
 have h := Ln.nat (n := 1) (a := 0) (by decide)
 exact h
theorem PrOk.mul {k : Nat} {p q : Rat} (h : PrOk k p) (hq : Ln 100 100 q) : PrOk (k + 1) (p * q) := (Ln.mul h hq).mono (by omega) (by omega)
theorem PrOk.fits {k : Nat} {p : Rat} (h : PrOk k p) (hk : k ≤ 10) : Fits p := Ln.fits h (by omega) (by omega)
theorem PrOk.small {k : Nat} {p : Rat} (h : PrOk k p) (hk : k ≤ 10) : wlen p.num.natAbs ≤ 6000 ∧ wlen p.den ≤ 6000 := Ln.small h (by omega) (by omega)
def y3C (t : Y3) : Array Value := #[.bool t.b, .slice t.a1 t.n1 t.c1, .slice t.a2 t.n2 t.c2]
theorem y3_nw (t : Y3) : ∀ (j : Nat) (u : Value), (y3C t)[j]? = some u → isWord u = false := by
 intro j u h
 match j with
 | 0 => cases h; rfl
 | 1 => cases h; rfl
 | 2 => cases h; rfl
 | n + 3 => simp [y3C] at h
/-- a number in a block of the call's own that may be written -/
def Acc (w : World) (b : Nat) (s : Rat) : Prop := (∃ t, Box w b (y3C t) ∧ XR w (y3V t) s) ∧ Fre w b
theorem Acc.ext {w w' : World} {b : Nat} {s : Rat} (h : Acc w b s) (hb : Below w.heap.size w w') : Acc w' b s := by
 obtain ⟨⟨t, h1, h2⟩, h3⟩ := h
 exact ⟨⟨t, h1.ext hb, h2.ext hb⟩, h3.ext h1 hb⟩
theorem xr_keep3 {w : World} {b : Nat} {A : Array Value} {v : Value} {q : Rat} (h : XR w v q) (hA : Box w b A) (hn : ∀ (j : Nat) (u : Value), A[j]? = some u → isWord u = false) (v0 v1 v2 : Value) : XR (((w.setCell ⟨b, 0, none⟩ v0).setCell ⟨b, 1, none⟩ v1).setCell ⟨b, 2, none⟩ v2) v q := by
 obtain ⟨x1, x2, h0, h1, h2⟩ := h
 exact ⟨x1, x2, h0, h1.keepBox hA hn (set3_other _ _ _), h2.keepBox hA hn (set3_other _ _ _)⟩
theorem frz3 {w : World} {b : Nat} (v0 v1 v2 : Value) (p : Addr) : (((w.setCell ⟨b, 0, none⟩ v0).setCell ⟨b, 1, none⟩ v1).setCell ⟨b, 2, none⟩ v2).frozen? p = w.frozen? p := by
 rw [World.frozen?_setCell, World.frozen?_setCell, World.frozen?_setCell]
theorem ybox_set3 {w : World} {b : Nat} {t : Y3} (h : Box w b (y3C t)) (t' : Y3) : Box (((w.setCell ⟨b, 0, none⟩ (.bool t'.b)).setCell ⟨b, 1, none⟩ (.slice t'.a1 t'.n1 t'.c1)).setCell ⟨b, 2, none⟩ (.slice t'.a2 t'.n2 t'.c2)) b (y3C t') := by
 refine ⟨by simp; exact h.1, fun j => ?_⟩
 obtain ⟨e0, e1, e2⟩ := three_set (.bool t'.b) (.slice t'.a1 t'.n1 t'.c1) (.slice t'.a2 t'.n2 t'.c2) (h.2 0) (h.2 1) (h.2 2)
 match j with
 | 0 => exact e0
 | 1 => exact e1
 | 2 => exact e2
 | j + 3 =>
  have h3 := h.2 (j + 3)
  rw [World.cell?_setCell_other _ _ _ _ (by simp), World.cell?_setCell_other _ _ _ _ (by simp), World.cell?_setCell_other _ _ _ _ (by simp), h3]
  simp [y3C]
theorem acc_set {w : World} {b : Nat} {t : Y3} (t' : Y3) {s : Rat} (h : Box w b (y3C t)) (hF : Fre w b) (hx : XR w (y3V t') s) : Acc (((w.setCell ⟨b, 0, none⟩ (.bool t'.b)).setCell ⟨b, 1, none⟩ (.slice t'.a1 t'.n1 t'.c1)).setCell ⟨b, 2, none⟩ (.slice t'.a2 t'.n2 t'.c2)) b s :=
 ⟨⟨t', ybox_set3 h t', xr_keep3 hx h (y3_nw t) _ _ _⟩, fun j => by rw [frz3]; exact hF j⟩
theorem ybox_other {w : World} {b b' : Nat} {A : Array Value} (h : Box w b' A) (hne : b ≠ b') (v0 v1 v2 : Value) : Box (((w.setCell ⟨b, 0, none⟩ v0).setCell ⟨b, 1, none⟩ v1).setCell ⟨b, 2, none⟩ v2) b' A :=
 ⟨by simp; exact h.1, fun j => by rw [World.cell?_setCell_other _ _ _ _ (by intro e; exact hne (by cases e; rfl)), World.cell?_setCell_other _ _ _ _ (by intro e; exact hne (by cases e; rfl)), World.cell?_setCell_other _ _ _ _ (by intro e; exact hne (by cases e; rfl))]; exact h.2 j⟩
theorem acc_other {w : World} {b b' : Nat} {t : Y3} {s : Rat} (h : Acc w b' s) (hB : Box w b (y3C t)) (hne : b ≠ b') (v0 v1 v2 : Value) : Acc (((w.setCell ⟨b, 0, none⟩ v0).setCell ⟨b, 1, none⟩ v1).setCell ⟨b, 2, none⟩ v2) b' s := by
 obtain ⟨⟨t', h1, h2⟩, h3⟩ := h
 exact ⟨⟨t', ybox_other h1 hne _ _ _, xr_keep3 h2 hB (y3_nw t) _ _ _⟩, fun j => by rw [frz3]; exact h3 j⟩
theorem fre_set3 {w : World} {b b' : Nat} (h : Fre w b') (v0 v1 v2 : Value) : Fre (((w.setCell ⟨b, 0, none⟩ v0).setCell ⟨b, 1, none⟩ v1).setCell ⟨b, 2, none⟩ v2) b' := fun j => by rw [frz3]; exact h j
theorem below_set3 {B : Nat} {w0 w : World} {b : Nat} (h : Below B w0 w) (hle : B ≤ b) (v0 v1 v2 : Value) : Below B w0 (((w.setCell ⟨b, 0, none⟩ v0).setCell ⟨b, 1, none⟩ v1).setCell ⟨b, 2, none⟩ v2) := ((h.setCell hle _).setCell hle _).setCell hle _
/-- the world since W0: what lay below b is as it was -/
def Since (b : Nat) (W0 w : World) : Prop := Below b W0 w ∧ b ≤ w.heap.size
theorem Since.ext {b : Nat} {W0 w w' : World} (h : Since b W0 w) (hb : Below w.heap.size w w') : Since b W0 w' := ⟨h.1.trans (hb.mono h.2), Nat.le_trans h.2 hb.size⟩
end Nm
namespace Nt
open _root_.Go.Proofs.YtilolnjbpokdnaaDoor.Nm (rF rQ showN showD Fits RT AnsPost PrOk PrOk.one PrOk.mul PrOk.fits Ln)
end Nt
end Go.Proofs.YtilolnjbpokdnaaDoor
namespace Go.Proofs.YtilolnjbpokdnaaDoor
open Go.RowKit
namespace Nm
def okC (c x : Int) : Bool := decide (0 ≤ c) && decide (c ≤ 20000) && (decide (1 ≤ x) && decide (x ≤ 100000))
theorem okC_iff {c x : Int} : okC c x = true ↔ (0 ≤ c ∧ c ≤ 20000) ∧ 1 ≤ x ∧ x ≤ 100000 := by
  unfold okC; simp
def badF : List Int → List Int → Bool
  | c :: cs, x :: xs => if okC c x then badF cs xs else true
  | _, _ => false
def sumI : List Int → Int
  | [] => 0
  | c :: cs => c + sumI cs
theorem badF_step {cs xs : List Int} {k : Nat} (h : k < cs.length) (h' : k < xs.length) : badF (cs.drop k) (xs.drop k) = if okC cs[k] xs[k] then badF (cs.drop (k + 1)) (xs.drop (k + 1)) else true := by
  rw [List.drop_eq_getElem_cons h, List.drop_eq_getElem_cons h']; rfl
theorem sumI_step {cs : List Int} {k : Nat} (h : k < cs.length) : sumI (cs.drop k) = cs[k] + sumI (cs.drop (k + 1)) := by
  rw [List.drop_eq_getElem_cons h]; rfl
def misF (cs xs : List Int) : Int := if cs.length = 0 then 9 else if 20 < cs.length then 2 else if cs.length ≠ xs.length then 3 else if badF cs xs = true then 1 else if sumI cs = 0 then 14 else 0
/-- counts and weights as pairs -/
def prs : List Int → List Int → List (Nat × Nat)
  | c :: cs, x :: xs => (c.toNat, x.toNat) :: prs cs xs
  | _, _ => []
/-- the sum, in its order -/
def misL (n w : Nat) (a : Rat) : List (Nat × Nat) → Rat
  | [] => a
  | p :: r => misL n w (a + misT n w p) r
theorem misL_is (n w : Nat) : ∀ (l : List (Nat × Nat)) (a : Rat), misL n w a l = a + misS n w l
  | [], a => by show a = a + 0; rw [Rat.add_zero]
  | p :: r, a => by
    show misL n w (a + misT n w p) r = a + (misT n w p + misS n w r)
    rw [misL_is n w r, Rat.add_assoc]
def misQ (cs xs : List Int) : Rat := misL (sumI cs).toNat (sumI xs).toNat 0 (prs cs xs)
def misN (cs xs : List Int) : ByteArray := if misF cs xs = 0 then showN (misQ cs xs) else ⟨#[]⟩
def misD (cs xs : List Int) : ByteArray := if misF cs xs = 0 then showD (misQ cs xs) else ⟨#[]⟩
theorem mis_no {cs xs : List Int} (h : misF cs xs ≠ 0) : misN cs xs = ⟨#[]⟩ ∧ misD cs xs = ⟨#[]⟩ := by
  unfold misN misD
  rw [if_neg h, if_neg h]; exact ⟨rfl, rfl⟩
theorem prs_step {cs xs : List Int} {k : Nat} (h : k < cs.length) (h' : k < xs.length) : prs (cs.drop k) (xs.drop k) = (cs[k].toNat, xs[k].toNat) :: prs (cs.drop (k + 1)) (xs.drop (k + 1)) := by
  rw [List.drop_eq_getElem_cons h, List.drop_eq_getElem_cons h']; rfl
theorem misL_step {cs xs : List Int} {k : Nat} (h : k < cs.length) (h' : k < xs.length) (n w : Nat) (a : Rat) : misL n w a (prs (cs.drop k) (xs.drop k)) = misL n w (a + misT n w (cs[k].toNat, xs[k].toNat)) (prs (cs.drop (k + 1)) (xs.drop (k + 1))) := by
  rw [prs_step h h']; rfl
theorem misF_parts {cs xs : List Int} (h : misF cs xs = 0) : (1 ≤ cs.length ∧ cs.length ≤ 20) ∧ cs.length = xs.length ∧ badF cs xs = false ∧ sumI cs ≠ 0 := by
  unfold misF at h
  by_cases h1 : cs.length = 0
  · rw [if_pos h1] at h; cases h
  · rw [if_neg h1] at h
    by_cases h2 : 20 < cs.length
    · rw [if_pos h2] at h; cases h
    · rw [if_neg h2] at h
      by_cases h3 : cs.length = xs.length
      · rw [if_neg (fun h' => h' h3)] at h
        by_cases h4 : badF cs xs = true
        · rw [if_pos h4] at h; cases h
        · rw [if_neg h4] at h
          by_cases h5 : sumI cs = 0
          · rw [if_pos h5] at h; cases h
          · exact ⟨⟨by omega, by omega⟩, h3, by simpa using h4, h5⟩
      · rw [if_pos h3] at h; cases h
/-- all counts and weights are right -/
def OkL : List Int → List Int → Prop
  | c :: cs, x :: xs => okC c x = true ∧ OkL cs xs
  | _, _ => True
theorem badF_ok : ∀ {cs xs : List Int}, badF cs xs = false → OkL cs xs
  | [], _, _ => trivial
  | _ :: _, [], _ => trivial
  | c :: cs, x :: xs, h => by
    by_cases ho : okC c x = true
    · have e : badF (c :: cs) (x :: xs) = badF cs xs := if_pos ho
      rw [e] at h
      exact ⟨ho, badF_ok h⟩
    · have e : badF (c :: cs) (x :: xs) = true := if_neg ho
      rw [e] at h; cases h
theorem OkL.at_ : ∀ {cs xs : List Int}, OkL cs xs → ∀ (k : Nat) (h : k < cs.length) (h' : k < xs.length), okC cs[k] xs[k] = true
  | [], _, _, k, h, _ => by simp at h
  | _ :: _, [], _, k, _, h' => by simp at h'
  | c :: cs, x :: xs, ho, 0, _, _ => ho.1
  | c :: cs, x :: xs, ho, k + 1, h, h' => ho.2.at_ k (by simpa using h) (by simpa using h')
/-- the sums of what is right -/
theorem sums_ok : ∀ {cs xs : List Int}, cs.length = xs.length → OkL cs xs → (0 ≤ sumI cs ∧ sumI cs ≤ 20000 * cs.length) ∧ (cs.length : Int) ≤ sumI xs ∧ sumI xs ≤ 100000 * cs.length
  | [], [], _, _ => by simp [sumI]
  | [], _ :: _, h, _ => by simp at h
  | _ :: _, [], h, _ => by simp at h
  | c :: cs, x :: xs, h, ho => by
    have ih := sums_ok (cs := cs) (xs := xs) (by simpa using h) ho.2
    have h1 := okC_iff.1 ho.1
    simp only [sumI, List.length_cons, Int.natCast_add, Int.natCast_one]
    omega
/-- the parts of a sum of k -/
def MsOk (k : Nat) (q : Rat) : Prop := Ln (26 * k + 33) (25 * k) q
theorem MsOk.zero : MsOk 0 0 := by
  have h := Ln.nat (n := 0) (a := 33) (by decide)
  exact h
theorem MsOk.fits {k : Nat} {q : Rat} (h : MsOk k q) (hk : k ≤ 20) : Fits q := Ln.fits h (by omega) (by omega)
theorem MsOk.small {k : Nat} {q : Rat} (h : MsOk k q) (hk : k ≤ 20) : wlen q.num.natAbs ≤ 6000 ∧ wlen q.den ≤ 6000 := Ln.small h (by omega) (by omega)
/-- what one round makes -/
structure MsR (n w c x : Nat) : Prop where
  share : Ln 11 7 ((n : Rat) * (x : Rat) / (w : Rat))
  pos : 0 < (n : Rat) * (x : Rat) / (w : Rat)
  diff : Ln 13 7 ((c : Rat) - (n : Rat) * (x : Rat) / (w : Rat))
  sq : Ln 26 14 (((c : Rat) - (n : Rat) * (x : Rat) / (w : Rat)) * ((c : Rat) - (n : Rat) * (x : Rat) / (w : Rat)))
  term : Ln 33 25 (misT n w (c, x))
theorem ms_round {n w c x : Nat} (hn : 0 < n) (hn' : n ≤ 400000) (hw : 0 < w) (hw' : w ≤ 2000000) (hc : c ≤ 20000) (hx : 0 < x) (hx' : x ≤ 100000) : MsR n w c x := by
  have h0 := share_pos hn hw hx
  have hnx : n * x ≤ 10 ^ 11 := Nat.le_trans (Nat.mul_le_mul hn' hx') (by decide)
  have hw0 : (w : Rat) ≠ 0 := ne_pos (ncast_pos hw)
  have hs : Ln 11 7 ((n : Rat) * (x : Rat) / (w : Rat)) := by
    rw [← Rat.natCast_mul]
    have h1 : Ln 11 0 ((n * x : Nat) : Rat) := Ln.nat hnx
    have h2 : Ln 7 0 ((w : Nat) : Rat) := Ln.nat (Nat.le_trans hw' (by decide))
    exact (h1.div h2 hw0).mono (by omega) (by omega)
  have hcl : Ln 5 0 ((c : Nat) : Rat) := Ln.nat (Nat.le_trans hc (by decide))
  have hd : Ln 13 7 ((c : Rat) - (n : Rat) * (x : Rat) / (w : Rat)) := (hcl.sub hs).mono (by omega) (by omega)
  have hq := (hd.mul hd).mono (a' := 26) (b' := 14) (by omega) (by omega)
  exact ⟨hs, h0, hd, hq, (hq.div hs (ne_pos h0)).mono (by omega) (by omega)⟩
theorem MsOk.add {k : Nat} {q t : Rat} (h : MsOk k q) (ht : Ln 33 25 t) : MsOk (k + 1) (q + t) := (Ln.add h ht).mono (by omega) (by omega)
/-- all that the second loop asks -/
structure MsAll (cs xs : List Int) (n w : Nat) : Prop where
  len : cs.length = xs.length
  short : cs.length ≤ 20
  sn : sumI cs = (n : Int)
  sw : sumI xs = (w : Int)
  n0 : 0 < n
  n1 : n ≤ 400000
  w0 : 0 < w
  w1 : w ≤ 2000000
  ok : OkL cs xs
theorem ms_all {cs xs : List Int} (h : misF cs xs = 0) : MsAll cs xs (sumI cs).toNat (sumI xs).toNat := by
  obtain ⟨⟨h1, h2⟩, h3, h4, h5⟩ := misF_parts h
  have ho := badF_ok h4
  have hs := sums_ok h3 ho
  exact ⟨h3, h2, by omega, by omega, by omega, by omega, by omega, by omega, ho⟩
theorem MsAll.round {cs xs : List Int} {n w : Nat} (h : MsAll cs xs n w) {k : Nat} (hk : k < cs.length) (hk' : k < xs.length) :
    ∃ c x : Nat, cs[k] = (c : Int) ∧ xs[k] = (x : Int) ∧ MsR n w c x ∧ c ≤ 20000 ∧ x ≤ 100000 ∧ (∀ a, misL n w a (prs (cs.drop k) (xs.drop k)) = misL n w (a + misT n w (c, x)) (prs (cs.drop (k + 1)) (xs.drop (k + 1)))) := by
  have hc := okC_iff.1 (h.ok.at_ k hk hk')
  refine ⟨cs[k].toNat, xs[k].toNat, by omega, by omega, ms_round h.n0 h.n1 h.w0 h.w1 (by omega) (by omega) (by omega), by omega, by omega, fun a => misL_step hk hk' n w a⟩
theorem misQ_is {cs xs : List Int} : misQ cs xs = misL (sumI cs).toNat (sumI xs).toNat 0 (prs (cs.drop 0) (xs.drop 0)) := rfl
end Nm
end Go.Proofs.YtilolnjbpokdnaaDoor
namespace Go.Proofs.YtilolnjbpokdnaaDoor
open Go.RowKit
namespace Nm
/-- all counts have their shares of n, by weights of w -/
def evB (n w : Int) : List Int → List Int → Bool
  | c :: cs, x :: xs => decide (c * w = n * x) && evB n w cs xs
  | _, _ => true
/-- all weights, doubled, are small enough -/
def smB : List Int → Bool
  | [] => true
  | x :: xs => decide (2 * x ≤ 100000) && smB xs
def dblL (xs : List Int) : List Int := xs.map (2 * ·)
theorem evB_step {n w : Int} {cs xs : List Int} {k : Nat} (h : k < cs.length) (h' : k < xs.length) : evB n w (cs.drop k) (xs.drop k) = (decide (cs[k] * w = n * xs[k]) && evB n w (cs.drop (k + 1)) (xs.drop (k + 1))) := by
  rw [List.drop_eq_getElem_cons h, List.drop_eq_getElem_cons h']; rfl
theorem smB_step {xs : List Int} {k : Nat} (h : k < xs.length) : smB (xs.drop k) = (decide (2 * xs[k] ≤ 100000) && smB (xs.drop (k + 1))) := by
  rw [List.drop_eq_getElem_cons h]; rfl
theorem evB_end {n w : Int} {cs xs : List Int} {k : Nat} (h : cs.length ≤ k) : evB n w (cs.drop k) (xs.drop k) = true := by
  rw [List.drop_of_length_le h]; rfl
theorem smB_end {xs : List Int} {k : Nat} (h : xs.length ≤ k) : smB (xs.drop k) = true := by
  rw [List.drop_of_length_le h]; rfl
theorem prs_pos : ∀ {cs xs : List Int}, OkL cs xs → ∀ p ∈ prs cs xs, 0 < p.2
  | [], _, _, p, hp => by simp [prs] at hp
  | _ :: _, [], _, p, hp => by simp [prs] at hp
  | c :: cs, x :: xs, ho, p, hp => by
    have h1 := okC_iff.1 ho.1
    rcases List.mem_cons.1 hp with rfl | h
    · show 0 < x.toNat
      omega
    · exact prs_pos ho.2 p h
theorem prs_even (n w : Nat) : ∀ {cs xs : List Int}, OkL cs xs → ((∀ p ∈ prs cs xs, p.1 * w = n * p.2) ↔ evB (n : Int) (w : Int) cs xs = true)
  | [], xs, _ => by simp [prs, evB]
  | _ :: _, [], _ => by simp [prs, evB]
  | c :: cs, x :: xs, ho => by
    have h1 := okC_iff.1 ho.1
    have ih := prs_even n w ho.2
    show (∀ p ∈ (c.toNat, x.toNat) :: prs cs xs, p.1 * w = n * p.2) ↔ (decide (c * (w : Int) = (n : Int) * x) && evB n w cs xs) = true
    rw [List.forall_mem_cons, ih, Bool.and_eq_true, decide_eq_true_eq]
    have hc : ((c.toNat : Nat) : Int) = c := Int.toNat_of_nonneg h1.1.1
    have hx : ((x.toNat : Nat) : Int) = x := Int.toNat_of_nonneg (by omega)
    have e : c.toNat * w = n * x.toNat ↔ c * (w : Int) = (n : Int) * x := by
      rw [← Int.natCast_inj, Int.natCast_mul, Int.natCast_mul, hc, hx]
    rw [e]
theorem shr_even {cs xs : List Int} (h : misF cs xs = 0) : misQ cs xs = 0 ↔ evB (sumI cs) (sumI xs) cs xs = true := by
  obtain ⟨⟨h1, h2⟩, h3, h4, h5⟩ := misF_parts h
  have ho := badF_ok h4
  have hs := sums_ok h3 ho
  have e1 : (((sumI cs).toNat : Nat) : Int) = sumI cs := Int.toNat_of_nonneg hs.1.1
  have e2 : (((sumI xs).toNat : Nat) : Int) = sumI xs := Int.toNat_of_nonneg (by omega)
  have := prs_even (sumI cs).toNat (sumI xs).toNat ho
  rw [e1, e2] at this
  unfold misQ
  rw [misL_is, Rat.zero_add, misS_zero (by omega) (by omega) (prs_pos ho), this]
theorem sumI_dbl : ∀ xs : List Int, sumI (dblL xs) = 2 * sumI xs
  | [] => rfl
  | x :: xs => by
    show 2 * x + sumI (dblL xs) = 2 * (x + sumI xs)
    rw [sumI_dbl xs]; omega
theorem prs_dbl : ∀ {cs xs : List Int}, OkL cs xs → prs cs (dblL xs) = (prs cs xs).map dbl
  | [], _, _ => rfl
  | _ :: _, [], _ => rfl
  | c :: cs, x :: xs, ho => by
    have h1 := okC_iff.1 ho.1
    show (c.toNat, (2 * x).toNat) :: prs cs (dblL xs) = (c.toNat, 2 * x.toNat) :: (prs cs xs).map dbl
    rw [prs_dbl ho.2, show (2 * x).toNat = 2 * x.toNat by omega]
theorem bad_dbl : ∀ {cs xs : List Int}, OkL cs xs → smB xs = true → badF cs (dblL xs) = false
  | [], _, _, _ => rfl
  | _ :: _, [], _, _ => rfl
  | c :: cs, x :: xs, ho, hs => by
    have h1 := okC_iff.1 ho.1
    have h2 : decide (2 * x ≤ 100000) = true ∧ smB xs = true := Bool.and_eq_true_iff.1 hs
    have h3 := of_decide_eq_true h2.1
    show (if okC c (2 * x) = true then badF cs (dblL xs) else true) = false
    rw [if_pos (okC_iff.2 ⟨h1.1, by omega, h3⟩)]
    exact bad_dbl ho.2 h2.2
theorem shr_dbl {cs xs : List Int} (h : misF cs xs = 0) (hs : smB xs = true) : misF cs (dblL xs) = 0 ∧ misQ cs (dblL xs) = misQ cs xs := by
  obtain ⟨⟨h1, h2⟩, h3, h4, h5⟩ := misF_parts h
  have ho := badF_ok h4
  have hl : (dblL xs).length = xs.length := by unfold dblL; simp
  constructor
  · unfold misF
    rw [if_neg (by omega), if_neg (by omega), if_neg (fun e => e (h3.trans hl.symm)), if_neg (by rw [bad_dbl ho hs]; decide), if_neg h5]
  · unfold misQ
    rw [misL_is, misL_is, prs_dbl ho, sumI_dbl, show (2 * sumI xs).toNat = 2 * (sumI xs).toNat by omega, misS_dbl]
end Nm
end Go.Proofs.YtilolnjbpokdnaaDoor
