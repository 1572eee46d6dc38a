/- What a region that draws its order holds on to, where it ends in a store into a block of the call's own. No program stands in it. power and capitals of package decide, power of package metric. Exact numbers: plain mathematics over the core's Rat. small, shifted, lowered of package value. -/
import Derived.Test.YtiieckboccbhhaaGreatDoorB900
import Derived.Deep.RegionHeld3
import Derived.Test.YtiieckboccbhhaaGreatDoorB903
import Derived.Test.YtiieckboccbhhaaGreatDoorB902
import Derived.Laws.BitsAllLaws
namespace Go.Proofs.YtiieckboccbhhaaGreatDoor
open Go.RowKit
theorem ext_alloc (w : World) (o : Obj) : Below w.heap.size w (w.alloc o) := (Below.refl _ _).alloc (Nat.le_refl _) _
/-- A block that may be written. -/
def Fre (W : World) (b : Nat) : Prop := ∀ j, W.frozen? ⟨b, j, none⟩ = false
theorem Fre.ext {W W' : World} {b : Nat} {A : Array Value} (h : Fre W b) (hA : Box W b A) (hb : Below W.heap.size W W') : Fre W' b :=
  fun j => (hb.frozen (p := ⟨b, j, none⟩) hA.1).trans (h j)
theorem Fre.new (w : World) (A : Array Value) (t : TypeId) : Fre (w.alloc (.cells A t)) w.heap.size := fun j => by simp
/-- A struct result's block alone. -/
theorem wp_box1r {P : Program} {c : Code} {Q : Exit → Act → World → Prop} {a : Act} {w : World} {A : Array Value} {t : TypeId}
    (h : ∀ W, W.heap.size = w.heap.size + 1 → Below w.heap.size w W → Box W w.heap.size A → Fre W w.heap.size → c.wp P Q a W) : c.wp P Q a (w.alloc (.cells A t)) :=
  h _ (by simp) ((Below.refl _ _).alloc (Nat.le_refl _) _) (Box.new _ _ _) (Fre.new _ _ _)
/-- One struct parameter, and a struct result. -/
theorem wp_box2r {P : Program} {c : Code} {Q : Exit → Act → World → Prop} {a : Act} {w : World} {A B : Array Value} {t u : TypeId}
    (h : ∀ W, W.heap.size = w.heap.size + 2 → Below w.heap.size w W → Box W w.heap.size A → Box W (w.heap.size + 1) B → Fre W (w.heap.size + 1) → c.wp P Q a W) : c.wp P Q a ((w.alloc (.cells A t)).alloc (.cells B u)) := by
  refine h _ (by simp) (by go_grown) ((Box.new _ _ _).ext (by go_grown)) ?_ ?_
  · have := Box.new (w.alloc (.cells A t)) B u
    simpa using this
  · have := Fre.new (w.alloc (.cells A t)) B u
    simpa using this
/-- Two struct parameters, and a struct result. -/
theorem wp_box3r {P : Program} {c : Code} {Q : Exit → Act → World → Prop} {a : Act} {w : World} {A B C : Array Value} {t u v : TypeId}
    (h : ∀ W, W.heap.size = w.heap.size + 3 → Below w.heap.size w W → Box W w.heap.size A → Box W (w.heap.size + 1) B → Box W (w.heap.size + 2) C → Fre W (w.heap.size + 2) → c.wp P Q a W) : c.wp P Q a (((w.alloc (.cells A t)).alloc (.cells B u)).alloc (.cells C v)) := by
  refine h _ (by simp) (by go_grown) (((Box.new _ _ _).ext (by go_grown)).ext (by go_grown)) ?_ ?_ ?_
  · have := Box.new (w.alloc (.cells A t)) B u
    exact Box.ext (by simpa using this) (by go_grown)
  · have := Box.new ((w.alloc (.cells A t)).alloc (.cells B u)) C v
    simpa using this
  · have := Fre.new ((w.alloc (.cells A t)).alloc (.cells B u)) C v
    simpa using this

/-- held: below B the world is W's, and two blocks read as they did -/
abbrev S2R (W : World) (B : Nat) (b1 : Nat) (A1 : Array Value) (b2 : Nat) (A2 : Array Value) (w' : World) : Prop :=
  Below B W w' ∧ (∀ j, w'.cell? ⟨b1, j, none⟩ = A1[j]?) ∧ (∀ j, w'.cell? ⟨b2, j, none⟩ = A2[j]?)
theorem S2R.start {W : World} {B b1 : Nat} {A1 : Array Value} {b2 : Nat} {A2 : Array Value} (h1 : Box W b1 A1) (h2 : Box W b2 A2) : S2R W B b1 A1 b2 A2 W.drew :=
  ⟨(Below.refl _ _).drew, h1.2, h2.2⟩
theorem S2R.ext {W w1 w2 : World} {B b1 : Nat} {A1 : Array Value} {b2 : Nat} {A2 : Array Value} (hb : Below w1.heap.size w1 w2) (h : S2R W B b1 A1 b2 A2 w1) (hB : B ≤ W.heap.size) (h1 : Box W b1 A1) (h2 : Box W b2 A2) : S2R W B b1 A1 b2 A2 w2 :=
  ⟨h.1.trans (hb.mono (Nat.le_trans hB h.1.size)), fun j => (hb.cell (p := ⟨b1, j, none⟩) (Nat.lt_of_lt_of_le h1.1 h.1.size)).trans (h.2.1 j), fun j => (hb.cell (p := ⟨b2, j, none⟩) (Nat.lt_of_lt_of_le h2.1 h.1.size)).trans (h.2.2 j)⟩
theorem S2R.set {W w1 : World} {B b1 : Nat} {A1 : Array Value} {b2 : Nat} {A2 : Array Value} {p : Addr} {v : Value} (h : S2R W B b1 A1 b2 A2 w1) (hp : B ≤ p.block) (h1 : b1 < B) (h2 : b2 < B) : S2R W B b1 A1 b2 A2 (w1.setCell p v) := by
  have hb : Below B w1 (w1.setCell p v) := (Below.refl _ _).setCell hp v
  exact ⟨h.1.trans hb, fun j => (hb.cell (p := ⟨b1, j, none⟩) h1).trans (h.2.1 j), fun j => (hb.cell (p := ⟨b2, j, none⟩) h2).trans (h.2.2 j)⟩

/-- Two cells of a block, written. -/
theorem two_set {w : World} {b : Nat} {u0 u1 : Value} (v0 v1 : Value) (h0 : w.cell? ⟨b, 0, none⟩ = some u0) (h1 : w.cell? ⟨b, 1, none⟩ = some u1) :
    ((w.setCell ⟨b, 0, none⟩ v0).setCell ⟨b, 1, none⟩ v1).cell? ⟨b, 0, none⟩ = some v0 ∧ ((w.setCell ⟨b, 0, none⟩ v0).setCell ⟨b, 1, none⟩ v1).cell? ⟨b, 1, none⟩ = some v1 := by
  have e1 : (w.setCell ⟨b, 0, none⟩ v0).cell? ⟨b, 1, none⟩ = some u1 := by rw [World.cell?_setCell_other _ _ _ _ (by simp)]; exact h1
  refine ⟨?_, ?_⟩
  · rw [World.cell?_setCell_other _ _ _ _ (by simp)]
    exact World.cell?_setCell_same _ _ _ h0
  · exact World.cell?_setCell_same _ _ _ e1

/-- The cells of a list of structs of sz cells each. -/
theorem flat_get {α : Type} {f : α → List Value} {sz : Nat} (hs : ∀ x, (f x).length = sz) : ∀ (l : List α) (k : Nat) (x : α), l[k]? = some x → ∀ j u, (f x)[j]? = some u → (l.flatMap f)[k * sz + j]? = some u
  | [], _, _, h, _, _, _ => by simp at h
  | y :: l, 0, x, h, j, u, hu => by
    obtain rfl : y = x := by simpa using h
    rw [List.flatMap_cons, Nat.zero_mul, Nat.zero_add, List.getElem?_append_left (List.getElem?_eq_some_iff.1 hu).1]; exact hu
  | y :: l, k + 1, x, h, j, u, hu => by
    have ih := flat_get hs l k x (by simpa using h) j u hu
    have e : (k + 1) * sz + j = (f y).length + (k * sz + j) := by rw [hs, Nat.add_mul]; omega
    rw [List.flatMap_cons, e, List.getElem?_append_right (by omega), ← ih]
    congr 1; omega
/-- An element of a slice of structs: where it lies, and its cells. -/
theorem Sl.elem {w : World} {a : Option Addr} {n c k : Nat} {α : Type} {f : α → List Value} {sz : Nat} {l : List α} {x : α} (s : Sl w (.slice a n c) n (l.flatMap f)) (hs : ∀ x, (f x).length = sz) (hsz : 0 < sz) (hx : l[k]? = some x) :
    ∃ b o, a = some ⟨b, o, none⟩ ∧ ∀ j u, (f x)[j]? = some u → w.cell? ⟨b, o + k * sz + j, none⟩ = some u := by
  obtain ⟨a', cap, hv, _, _, _, h3⟩ := s
  obtain ⟨rfl, _, _⟩ : a = a' ∧ True ∧ True := by cases hv; exact ⟨rfl, trivial, trivial⟩
  have h0 : 0 < (f x).length := by rw [hs]; exact hsz
  obtain ⟨b, o, rfl, _⟩ := h3 _ _ (flat_get hs l k x hx 0 _ (List.getElem?_eq_getElem h0))
  refine ⟨b, o, rfl, fun j u hu => ?_⟩
  obtain ⟨b', o', hb, hc⟩ := h3 _ _ (flat_get hs l k x hx j u hu)
  cases hb
  rw [Nat.add_assoc]; exact hc

/-- What the call owns stays owned where nothing that is there turns. -/
theorem ownsRow_ext {w w' : World} {base e size n : Nat} {v : Value} {xs : List Value} (h : w.ownsRow base e size v n xs) (hb : Below w.heap.size w w') : w'.ownsRow base e size v n xs := by
  obtain ⟨h1, h2⟩ := h
  refine ⟨h1, ?_⟩
  rcases h2 with h2 | ⟨g, cap, cur, hv, hbg, hg, h3⟩
  · exact .inl h2
  · refine .inr ⟨g, cap, cur, hv, hbg, ?_, h3⟩
    rw [hb.block g (Array.getElem?_eq_some_iff.1 hg).1]; exact hg
/-- A slice over a new block. -/
theorem Sl.new (w : World) (A : Array Value) (t : TypeId) (n cap : Nat) (h : n ≤ cap) (hm : cap ≤ maxLen) : Sl (w.alloc (.cells A t)) (.slice (some ⟨w.heap.size, 0, none⟩) n cap) n A.toList :=
  ⟨_, _, rfl, h, hm, (fun h => by cases h), fun i x hx => ⟨_, _, rfl, by simpa using hx⟩⟩

theorem S2R.grown {W w1 w2 : World} {B b1 : Nat} {A1 : Array Value} {b2 : Nat} {A2 : Array Value} {row : Option Nat} (hg : w1.grownBy w2 row) (h : S2R W B b1 A1 b2 A2 w1) (hB : B ≤ W.heap.size) (h1 : Box W b1 A1) (h2 : Box W b2 A2)
    (hr : ∀ k, row = some k → B ≤ k ∧ k ≠ b1 ∧ k ≠ b2) : S2R W B b1 A1 b2 A2 w2 := by
  have l1 := Nat.lt_of_lt_of_le h1.1 h.1.size
  have l2 := Nat.lt_of_lt_of_le h2.1 h.1.size
  refine ⟨h.1.grown hg (Nat.le_trans hB h.1.size) (fun k e => (hr k e).1), fun j => ?_, fun j => ?_⟩
  · rw [World.cell?_of_block (w := w1) (hg.block b1 l1 (fun e => (hr b1 e.symm).2.1 rfl))]; exact h.2.1 j
  · rw [World.cell?_of_block (w := w1) (hg.block b2 l2 (fun e => (hr b2 e.symm).2.2 rfl))]; exact h.2.2 j
end Go.Proofs.YtiieckboccbhhaaGreatDoor
namespace Go.Proofs.YtiieckboccbhhaaGreatDoor
open Go.RowKit
namespace Nm
theorem wlen_one {n : Nat} (h : n < B) : wlen n ≤ 1 := wlen_le (by rw [Nat.pow_one]; exact h)
theorem wlen_pow {n : Nat} (h : n < B) : ∀ k, wlen (n ^ k) ≤ k + 1
  | 0 => by rw [Nat.pow_zero]; exact wlen_one (by decide)
  | k + 1 => by
    rw [Nat.pow_succ]
    have h1 := wlen_mul (n ^ k) n
    have h2 := wlen_pow h k
    have h3 := wlen_one h
    omega
end Nm
end Go.Proofs.YtiieckboccbhhaaGreatDoor
namespace Go.Proofs.YtiieckboccbhhaaGreatDoor
namespace Nm
def sgn (b : Bool) (n : Nat) : Int := if b then -(n : Int) else (n : Int)
theorem sgn_natAbs (b : Bool) (n : Nat) : (sgn b n).natAbs = n := by cases b <;> simp [sgn]
theorem sgn_self (z : Int) : sgn (decide (z < 0)) z.natAbs = z := by
  by_cases h : z < 0
  · simp [sgn, h]; omega
  · simp [sgn, h]; omega
theorem norm_den (b : Bool) (n d : Nat) (hd : d ≠ 0) : (Rat.normalize (sgn b n) d hd).den = d / n.gcd d := by
  rw [Rat.normalize_eq]; simp only [sgn_natAbs]
theorem norm_num (b : Bool) (n d : Nat) (hd : d ≠ 0) : (Rat.normalize (sgn b n) d hd).num = sgn b (n / n.gcd d) := by
  rw [Rat.normalize_eq]; simp only [sgn_natAbs]
  cases b
  · simp [sgn]
  · simp only [sgn, if_true]
    rw [Int.neg_ediv_of_dvd (Int.natCast_dvd_natCast.2 (Nat.gcd_dvd_left n d))]
    simp
theorem norm_abs (b : Bool) (n d : Nat) (hd : d ≠ 0) : (Rat.normalize (sgn b n) d hd).num.natAbs = n / n.gcd d := by
  rw [norm_num, sgn_natAbs]
theorem norm_neg (b : Bool) (n d : Nat) (hd : d ≠ 0) : decide ((Rat.normalize (sgn b n) d hd).num < 0) = (b && decide (0 < n / n.gcd d)) := by
  rw [norm_num]
  generalize n / n.gcd d = m
  cases b
  · simp [sgn]
  · simp [sgn]
theorem normalize_congr {a b : Int} {d : Nat} (hd hd' : d ≠ 0) (h : a = b) : Rat.normalize a d hd = Rat.normalize b d hd' := by subst h; rfl
/-- the sum by signs -/
theorem add_same {x y : Rat} (h : decide (x.num < 0) = decide (y.num < 0)) : x.num * (y.den : Int) + y.num * (x.den : Int) = sgn (decide (x.num < 0)) (x.num.natAbs * y.den + y.num.natAbs * x.den) := by
  have hx := sgn_self x.num
  have hy := sgn_self y.num
  rw [← h] at hy
  generalize decide (x.num < 0) = b at *
  conv => lhs; rw [← hx, ← hy]
  generalize x.num.natAbs = m
  generalize y.num.natAbs = n
  cases b
  · simp [sgn]
  · simp [sgn, Int.neg_mul]; omega
theorem add_less {x y : Rat} (h : decide (x.num < 0) ≠ decide (y.num < 0)) (hl : x.num.natAbs * y.den < y.num.natAbs * x.den) : x.num * (y.den : Int) + y.num * (x.den : Int) = sgn (decide (y.num < 0)) (y.num.natAbs * x.den - x.num.natAbs * y.den) := by
  have hx := sgn_self x.num
  have hy := sgn_self y.num
  have hn : decide (x.num < 0) = !decide (y.num < 0) := by revert h; cases decide (x.num < 0) <;> cases decide (y.num < 0) <;> simp
  rw [hn] at hx
  generalize decide (y.num < 0) = b at *
  conv => lhs; rw [← hx, ← hy]
  generalize x.num.natAbs = m at *
  generalize y.num.natAbs = n at *
  have hc : ((n * x.den - m * y.den : Nat) : Int) = (n : Int) * (x.den : Int) - (m : Int) * (y.den : Int) := by rw [Int.ofNat_sub (Nat.le_of_lt hl), Int.natCast_mul, Int.natCast_mul]
  cases b
  · simp only [sgn, Bool.not_false, if_true]; simp [hc, Int.neg_mul]; omega
  · simp only [sgn, Bool.not_true, if_true]; simp [hc, Int.neg_mul]; omega
theorem add_more {x y : Rat} (h : decide (x.num < 0) ≠ decide (y.num < 0)) (hl : y.num.natAbs * x.den ≤ x.num.natAbs * y.den) : x.num * (y.den : Int) + y.num * (x.den : Int) = sgn (decide (x.num < 0)) (x.num.natAbs * y.den - y.num.natAbs * x.den) := by
  have hx := sgn_self x.num
  have hy := sgn_self y.num
  have hn : decide (y.num < 0) = !decide (x.num < 0) := by revert h; cases decide (x.num < 0) <;> cases decide (y.num < 0) <;> simp
  rw [hn] at hy
  generalize decide (x.num < 0) = b at *
  conv => lhs; rw [← hx, ← hy]
  generalize x.num.natAbs = m at *
  generalize y.num.natAbs = n at *
  have hc : ((m * y.den - n * x.den : Nat) : Int) = (m : Int) * (y.den : Int) - (n : Int) * (x.den : Int) := by rw [Int.ofNat_sub hl, Int.natCast_mul, Int.natCast_mul]
  cases b
  · simp only [sgn, Bool.not_false, if_true]; simp [hc, Int.neg_mul]; omega
  · simp only [sgn, Bool.not_true, if_true]; simp [hc, Int.neg_mul]; omega
theorem more_pos {x y : Rat} (h : decide (x.num < 0) ≠ decide (y.num < 0)) (hl : y.num.natAbs * x.den ≤ x.num.natAbs * y.den) : 0 < x.num.natAbs * y.den := by
  rcases Nat.eq_zero_or_pos (x.num.natAbs * y.den) with h0 | h0
  · exfalso
    have h1 : y.num.natAbs * x.den = 0 := by omega
    have hx : x.num.natAbs = 0 := by rcases Nat.mul_eq_zero.1 h0 with h | h; exact h; exact absurd h y.den_nz
    have hy : y.num.natAbs = 0 := by rcases Nat.mul_eq_zero.1 h1 with h | h; exact h; exact absurd h x.den_nz
    apply h
    have e1 : x.num = 0 := by omega
    have e2 : y.num = 0 := by omega
    rw [e1, e2]
  · exact h0
theorem mul_sgn (x y : Rat) : x.num * y.num = sgn (decide (x.num < 0) != decide (y.num < 0)) (x.num.natAbs * y.num.natAbs) := by
  have hx := sgn_self x.num
  have hy := sgn_self y.num
  generalize decide (x.num < 0) = b at *
  generalize decide (y.num < 0) = c at *
  conv => lhs; rw [← hx, ← hy]
  generalize x.num.natAbs = m
  generalize y.num.natAbs = n
  cases b <;> cases c <;> simp [sgn, Int.neg_mul, Int.mul_neg]
theorem den_pos (x y : Rat) : x.den * y.den ≠ 0 := Nat.mul_ne_zero x.den_nz y.den_nz
theorem inv_facts {x : Rat} (h : x.num ≠ 0) : x⁻¹.num.natAbs = x.den ∧ x⁻¹.den = x.num.natAbs ∧ decide (x⁻¹.num < 0) = decide (x.num < 0) ∧ x⁻¹.num ≠ 0 := by
  have h1 := Rat.num_inv x
  have h2 := Rat.den_inv x
  have hd := x.den_nz
  refine ⟨?_, ?_, ?_, ?_⟩
  · rw [h1, Int.natAbs_mul, Int.natAbs_sign_of_ne_zero h]; simp
  · rw [h2, if_neg h]
  · rw [h1]
    rcases Int.lt_or_gt_of_ne h with h3 | h3
    · rw [Int.sign_eq_neg_one_of_neg h3]; simp [h3]; omega
    · rw [Int.sign_eq_one_of_pos h3]; simp; omega
  · rw [h1]
    rcases Int.lt_or_gt_of_ne h with h3 | h3
    · rw [Int.sign_eq_neg_one_of_neg h3]; omega
    · rw [Int.sign_eq_one_of_pos h3]; omega
end Nm
end Go.Proofs.YtiieckboccbhhaaGreatDoor
namespace Go.Proofs.YtiieckboccbhhaaGreatDoor
open Go.RowKit
namespace Nm
theorem or64 {r X : Nat} (hr : r < 4294967296) (hX : X < 4294967296) : bits BinOp.or IntKind.u64 ((r : Int) * 4294967296) (X : Int) = (r : Int) * 4294967296 + (X : Int) := by
  have h := u64_or_nat (4294967296 * r) X (by omega) (by omega)
  have h2 := Nat.two_pow_add_eq_or_of_lt (i := 32) (b := X) (by simpa using hX) r
  rw [show (2 : Nat) ^ 32 = 4294967296 by decide] at h2
  rw [← h2] at h
  rw [show ((r : Int) * 4294967296) = ((4294967296 * r : Nat) : Int) by omega, h]; omega
/-- a number of two words divided by a word -/
theorem div_word {r X n : Nat} (hr : r < n) (hX : X < 4294967296) : ∃ q r', r * 4294967296 + X = q * n + r' ∧ r' < n ∧ q < 4294967296 ∧
    ((r : Int) * 4294967296 + (X : Int)).tdiv (n : Int) = (q : Int) ∧ ((r : Int) * 4294967296 + (X : Int)).tmod (n : Int) = (r' : Int) ∧ ((r : Int) * 4294967296 + (X : Int)) / (n : Int) = (q : Int) ∧ ((r : Int) * 4294967296 + (X : Int)) % (n : Int) = (r' : Int) := by
  have hc : ((r : Int) * 4294967296 + (X : Int)) = ((r * 4294967296 + X : Nat) : Int) := by omega
  have hq : (r * 4294967296 + X) / n < 4294967296 := by
    rw [Nat.div_lt_iff_lt_mul (by omega)]
    have : (r + 1) * 4294967296 ≤ n * 4294967296 := Nat.mul_le_mul_right _ hr
    omega
  refine ⟨(r * 4294967296 + X) / n, (r * 4294967296 + X) % n, (Nat.div_add_mod' _ _).symm, Nat.mod_lt _ (by omega), hq, ?_, ?_, ?_, ?_⟩
  · rw [hc]; rfl
  · rw [hc]; rfl
  · rw [hc]; rfl
  · rw [hc]; rfl
theorem small_step {D V n r X q r' : Nat} (hV : D = V * n + r) (h : r * 4294967296 + X = q * n + r') : X + B * D = (q + B * V) * n + r' := by
  subst hV
  rw [B_eq, Nat.add_mul, Nat.mul_add, Nat.mul_assoc]
  omega
/-- a quotient, and a word -/
def SmallPost (w : World) (q r : Nat) (e : Ending) (w' : World) : Prop := ∃ v, e = .returned (.tuple #[v, .int .u32 (r : Int)]) ∧ N w' v q ∧ Below w.heap.size w w'
set_option maxHeartbeats 8000000 in
theorem small_at (x n : Nat) (v : Value) (w : World) (hx : N w v x) (hxl : wlen x ≤ 1000000000) (hn : 0 < n) (hn2 : n < 4294967296) : Calls Tryz.prog 81 #[v, .int .u32 (n : Int)] w (SmallPost w (x / n) (x % n)) := by
  obtain ⟨a, c, rfl, s1⟩ := hx.open_
  obtain ⟨p1, p2⟩ := sl_caps s1
  have HX := Lib.hid (digs_dg x)
  unfold wlen at hxl
  clear hx
  go_enter Tryz.func81, Tryz.ntmps81
  go_wp2_with (refine wpList_make_words rfl _ _ rfl (digs x).length rfl rfl ?_ ?_ ?_; rotate_left 2; intro W hO hB hsz)
  case refine_1 => go_num
  case refine_2 => omega
  clear hsz
  have HZ : Hid (val ((digs x).drop (digs x).length) = val ((List.replicate (digs x).length 0).drop (digs x).length) * n + 0) := by
    have : val ((digs x).drop (digs x).length) = val ((List.replicate (digs x).length 0).drop (digs x).length) * n + 0 := by simp [val]
    exact this
  go_loopw [7, 8] (fun rv iv wr => ∃ (k r : Nat) (out : List Nat), k ≤ (digs x).length ∧ iv = .int .i64 ((k : Int) - 1) ∧ rv = .int .u64 r ∧ r < n ∧ Hid (out.length = (digs x).length) ∧ Hid (Dg out) ∧ Hid (val ((digs x).drop k) = val (out.drop k) * n + r) ∧ Own wr w.heap.size out ∧ Below w.heap.size w wr) (fun _ iv _ => (intOf iv + 1).toNat)
  case atStart => exact ⟨(digs x).length, 0, List.replicate (digs x).length 0, Nat.le_refl _, rfl, rfl, hn, by have := @List.length_replicate Nat (digs x).length 0; exact this, Dg.zeros _, HZ, hO, hB⟩
  case round =>
    obtain ⟨k, r, out, hk, rfl, rfl, hr, HL, HDo, HV, hOk, hBk⟩ := hrel
    cases k with
    | zero =>
      have HF : Hid (val out = x / n ∧ r = x % n) := by
        have h1 := HV.out
        rw [List.drop_zero, List.drop_zero, val_digs] at h1
        have : val out = x / n ∧ r = x % n := by
          constructor
          · rw [h1, Nat.add_comm, Nat.add_mul_div_right _ _ hn, Nat.div_eq_of_lt hr, Nat.zero_add]
          · rw [h1, Nat.add_comm, Nat.add_mul_mod_self_right, Nat.mod_eq_of_lt hr]
        exact this
      clear HV
      go_wp2_with fail
      have hs := hOk.sl (c := (digs x).length) (by rw [HL.out]; omega) (by unfold maxLen; omega)
      have hT := trim_at out HDo.out _ _ hs
      rw [HL.out] at hT
      refine Calls.mono hT ?_
      rintro e w' ⟨v, rfl, hv, rfl⟩
      clear hT hs
      go_wp2
      go_ret2
      rw [← HF.out.1, ← HF.out.2]
      exact ⟨_, rfl, hv, hBk⟩
    | succ j =>
      have hlt : j < (digs x).length := by omega
      obtain ⟨b, o, rfl, e0⟩ := sl_addr (s1.ext hBk) (wcs_get hlt)
      have hX := HX.out.get hlt
      have hko : j < out.length := by have := HL.out; omega
      have o0 := hOk.cell hko
      have o1 := hOk.frozen j
      have HV1 := Lib.hid (val_drop (digs x) j hlt)
      rw [show (((j + 1 : Nat) : Int) - 1) = (j : Int) by omega]
      generalize (digs x)[j] = X at *
      rw [B_eq] at hX
      obtain ⟨q, r', hdv, hr', hq, t1, t2, t3, t4⟩ := div_word hr hX
      have HR : Hid (val ((digs x).drop j) = val ((out.set j q).drop j) * n + r') := by
        have : val ((digs x).drop j) = val ((out.set j q).drop j) * n + r' := by
          rw [HV1.out, drop_set out j q hko]
          exact small_step HV.out hdv
        exact this
      have hor := or64 (r := r) (X := X) (by omega) hX
      clear HV HV1 hdv
      go_wp2
      go_roundw
      case rel => exact ⟨j, r', out.set j q, by omega, rfl, rfl, hr', Hid.len_set HL _ _, Hid.dg_set HDo _ hq, HR, hOk.set' hko _ (by omega), hBk.setCell (Nat.le_refl _) _⟩
      case measure => simp [intOf]
end Nm
end Go.Proofs.YtiieckboccbhhaaGreatDoor
