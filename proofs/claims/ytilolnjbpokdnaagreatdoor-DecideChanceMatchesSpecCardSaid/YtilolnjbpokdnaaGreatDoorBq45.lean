/- Plain: with how many pairs of some a test is decided. Plain: with how many pairs a chance is reached. No program stands in it. -/
import Derived.Test.YtilolnjbpokdnaaGreatDoorBq43
import Derived.Test.YtilolnjbpokdnaaGreatDoorBq26
import Derived.Test.YtilolnjbpokdnaaGreatDoorBq34
namespace Go.Proofs.YtilolnjbpokdnaaGreatDoor
namespace Nm
/-- the first of k numbers from n on that is decided -/
def lnFind (dec : Nat → Bool) : Nat → Nat → Option Nat
  | _, 0 => none
  | n, k + 1 => if dec n then some n else lnFind dec (n + 1) k
def lnN (o : Option Nat) : Int := match o with | some n => (n : Int) | none => 0
def lnK (o : Option Nat) : Bool := o.isSome
theorem lnFind_step {dec : Nat → Bool} {i k : Nat} (h : dec i = false) : lnFind dec i (k + 1) = lnFind dec (i + 1) k := by
  show (if dec i then some i else lnFind dec (i + 1) k) = _
  rw [h]; rfl
theorem lnFind_hit {dec : Nat → Bool} {i k : Nat} (h : dec i = true) : lnFind dec i (k + 1) = some i := by
  show (if dec i then some i else lnFind dec (i + 1) k) = _
  rw [h]; rfl
end Nm
end Go.Proofs.YtilolnjbpokdnaaGreatDoor
namespace Go.Proofs.YtilolnjbpokdnaaGreatDoor
namespace Ch
open _root_.Go.Proofs.YtilolnjbpokdnaaGreatDoor.Nm
/-- the arguments are in their ranges -/
def ndR (z o : Int) : Prop := (0 ≤ z ∧ z ≤ 1000) ∧ (0 ≤ o ∧ o ≤ 1000)
instance (z o : Int) : Decidable (ndR z o) := by unfold ndR; exact inferInstance
def ndF (d k : Int) (n m : ByteArray) (z o : Int) (a b : ByteArray) : Int := if testF d k n m ≠ 0 then testF d k n m else if ndR z o then missF a b else 1
def ndDec (d : Int) (kn : Nat) (q : Rat) (z o : Nat) (x : Rat) (i : Nat) : Bool := decide (x ≤ chQ d kn q 8 z o i)
def ndO (d k : Int) (n m : ByteArray) (z o : Int) (a b : ByteArray) : Option Nat := if ndF d k n m z o a b = 0 then lnFind (ndDec d k.toNat (rQ n m)⁻¹ z.toNat o.toNat (rQ a b)) 0 9 else none
theorem chS_grid {dec : Pt → Bool} {u d e : Rat} {n k : Nat} (hk : k ≤ n) : ∀ j, chS dec u d e (n + j) k = chS dec u d e n k
  | 0 => rfl
  | j + 1 => by
    rw [show n + (j + 1) = (n + j) + 1 from rfl, (ch_bound (dec := dec) (u := u) (d := d) (e := e) (n := n + j) k (by omega)).2.2, chS_grid hk j]
theorem chQ_grid (d : Int) (kn : Nat) (q : Rat) (z o : Nat) {i : Nat} (hi : i ≤ 8) : chQ d kn q 8 z o i = chQ d kn q i z o i := by
  have h := chS_grid (dec := decP d kn q) (u := many (upN z o)) (d := many (downN z o)) (e := many (evenN z o)) (Nat.le_refl i) (8 - i)
  rw [show i + (8 - i) = 8 by omega] at h
  exact h
theorem nd_zero {d : Int} {kn : Nat} {q : Rat} {z o : Nat} {x : Rat} (hx : 0 < x) : ndDec d kn q z o x 0 = false := by
  unfold ndDec
  have e : chQ d kn q 8 z o 0 = 0 := rfl
  rw [e]
  exact decide_eq_false (Rat.not_le.2 hx)
theorem nd_less {d : Int} {kn : Nat} {q : Rat} {z o : Nat} {x : Rat} {i : Nat} (hi : i ≤ 8) : (!(decide (chQ d kn q i z o i < x))) = ndDec d kn q z o x i := by
  unfold ndDec
  rw [chQ_grid d kn q z o hi, Bool.eq_iff_iff]
  simp only [Bool.not_eq_true', decide_eq_false_iff_not, decide_eq_true_eq]
  exact Rat.not_lt
/-- thousandths -/
def pq (z : Nat) : Rat := (z : Rat) / ((1000 : Nat) : Rat)
theorem one_ln : Ln 0 0 (1 : Rat) := by
  have h := Ln.nat (n := 1) (a := 0) (by decide)
  exact h
theorem pq_ln {z : Nat} (hz : z ≤ 1000) : Ln 3 3 (pq z) := frac_ln (by decide) hz (by decide)
theorem pq_rest {z : Nat} (hz : z ≤ 1000) : Ln 7 7 (1 - pq z) := (Ln.sub one_ln (pq_ln hz)).mono (by omega) (by omega)
theorem many_ln {n : Nat} (h : n ≤ 1000000) : Ln 6 6 (many n) := by
  obtain ⟨b1, b2⟩ := (many_fit h).bound
  exact ⟨b1, b2⟩
theorem many_rest {n : Nat} (h : n ≤ 1000000) : Ln 13 13 (1 - many n) := (Ln.sub one_ln (many_ln h)).mono (by omega) (by omega)
theorem pq_mul {z o : Nat} (hz : z ≤ 1000) : pq o * (1 - pq z) = many (upN z o) := by
  obtain ⟨y, hy⟩ : ∃ y, z + y = 1000 := ⟨1000 - z, by omega⟩
  have e1 : upN z o = o * y := by unfold upN; rw [show 1000 - z = y by omega]
  have e2 : (z : Rat) + (y : Rat) = 1000 := by rw [← Rat.natCast_add, hy]; rfl
  have e3 : ((1000 : Nat) : Rat) = 1000 := rfl
  have hu := unit_is
  unfold many pq
  rw [e1, Rat.intCast_natCast, Rat.natCast_mul, e3]
  generalize (z : Rat) = Z at *
  generalize (y : Rat) = Y at *
  generalize (o : Rat) = O
  generalize unitQ = U at *
  grind
structure Mille (z o : Nat) : Prop where
  p : Fits (pq z)
  q : Fits (pq o)
  p1 : Fits (1 - pq z)
  q1 : Fits (1 - pq o)
  u : pq o * (1 - pq z) = many (upN z o)
  d : pq z * (1 - pq o) = many (downN z o)
  fu : Fits (many (upN z o))
  fd : Fits (many (downN z o))
  fr : Fits (1 - many (upN z o))
  e : 1 - many (upN z o) - many (downN z o) = many (evenN z o)
  fe : Fits (many (evenN z o))
  hu : Fit 1000000 1000000 (many (upN z o))
  hd : Fit 1000000 1000000 (many (downN z o))
  he : Fit 1000000 1000000 (many (evenN z o))
theorem mille {z o : Nat} (hz : z ≤ 1000) (ho : o ≤ 1000) : Mille z o := by
  have h := even_int hz ho
  have h1 : upN z o ≤ 1000000 := by omega
  have h2 : downN z o ≤ 1000000 := by omega
  have h3 : evenN z o ≤ 1000000 := by unfold evenN; omega
  have hs := many_sum hz ho
  refine ⟨(pq_ln hz).fits (by omega) (by omega), (pq_ln ho).fits (by omega) (by omega), (pq_rest hz).fits (by omega) (by omega), (pq_rest ho).fits (by omega) (by omega), pq_mul hz, pq_mul (z := o) (o := z) ho, (many_ln h1).fits (by omega) (by omega), (many_ln h2).fits (by omega) (by omega), (many_rest h1).fits (by omega) (by omega), ?_, (many_ln h3).fits (by omega) (by omega), many_fit h1, many_fit h2, many_fit h3⟩
  grind
end Ch
end Go.Proofs.YtilolnjbpokdnaaGreatDoor
