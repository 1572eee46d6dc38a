/- Exact numbers: plain mathematics over the core's Rat. -/
import Derived.Test.YtkinapdfmgfdfaaNum
namespace Go.Proofs.Ytkinapdfmgfdfaa
namespace Nm
def sgn (b : Bool) (n : Nat) : Int := if b then -(n : Int) else (n : Int)
theorem sgn_natAbs (b : Bool) (n : Nat) : (sgn b n).natAbs = n := by cases b <;> simp [sgn]
theorem sgn_self (z : Int) : sgn (decide (z < 0)) z.natAbs = z := by
  by_cases h : z < 0
  · simp [sgn, h]; omega
  · simp [sgn, h]; omega
theorem norm_den (b : Bool) (n d : Nat) (hd : d ≠ 0) : (Rat.normalize (sgn b n) d hd).den = d / n.gcd d := by
  rw [Rat.normalize_eq]; simp only [sgn_natAbs]
theorem norm_num (b : Bool) (n d : Nat) (hd : d ≠ 0) : (Rat.normalize (sgn b n) d hd).num = sgn b (n / n.gcd d) := by
  rw [Rat.normalize_eq]; simp only [sgn_natAbs]
  cases b
  · simp [sgn]
  · simp only [sgn, if_true]
    rw [Int.neg_ediv_of_dvd (Int.natCast_dvd_natCast.2 (Nat.gcd_dvd_left n d))]
    simp
theorem norm_abs (b : Bool) (n d : Nat) (hd : d ≠ 0) : (Rat.normalize (sgn b n) d hd).num.natAbs = n / n.gcd d := by
  rw [norm_num, sgn_natAbs]
theorem norm_neg (b : Bool) (n d : Nat) (hd : d ≠ 0) : decide ((Rat.normalize (sgn b n) d hd).num < 0) = (b && decide (0 < n / n.gcd d)) := by
  rw [norm_num]
  generalize n / n.gcd d = m
  cases b
  · simp [sgn]
  · simp [sgn]
theorem normalize_congr {a b : Int} {d : Nat} (hd hd' : d ≠ 0) (h : a = b) : Rat.normalize a d hd = Rat.normalize b d hd' := by subst h; rfl
/-- the sum by signs -/
theorem add_same {x y : Rat} (h : decide (x.num < 0) = decide (y.num < 0)) : x.num * (y.den : Int) + y.num * (x.den : Int) = sgn (decide (x.num < 0)) (x.num.natAbs * y.den + y.num.natAbs * x.den) := by
  have hx := sgn_self x.num
  have hy := sgn_self y.num
  rw [← h] at hy
  generalize decide (x.num < 0) = b at *
  conv => lhs; rw [← hx, ← hy]
  generalize x.num.natAbs = m
  generalize y.num.natAbs = n
  cases b
  · simp [sgn]
  · simp [sgn, Int.neg_mul]; omega
theorem add_less {x y : Rat} (h : decide (x.num < 0) ≠ decide (y.num < 0)) (hl : x.num.natAbs * y.den < y.num.natAbs * x.den) : x.num * (y.den : Int) + y.num * (x.den : Int) = sgn (decide (y.num < 0)) (y.num.natAbs * x.den - x.num.natAbs * y.den) := by
  have hx := sgn_self x.num
  have hy := sgn_self y.num
  have hn : decide (x.num < 0) = !decide (y.num < 0) := by revert h; cases decide (x.num < 0) <;> cases decide (y.num < 0) <;> simp
  rw [hn] at hx
  generalize decide (y.num < 0) = b at *
  conv => lhs; rw [← hx, ← hy]
  generalize x.num.natAbs = m at *
  generalize y.num.natAbs = n at *
  have hc : ((n * x.den - m * y.den : Nat) : Int) = (n : Int) * (x.den : Int) - (m : Int) * (y.den : Int) := by rw [Int.ofNat_sub (Nat.le_of_lt hl), Int.natCast_mul, Int.natCast_mul]
  cases b
  · simp only [sgn, Bool.not_false, if_true]; simp [hc, Int.neg_mul]; omega
  · simp only [sgn, Bool.not_true, if_true]; simp [hc, Int.neg_mul]; omega
theorem add_more {x y : Rat} (h : decide (x.num < 0) ≠ decide (y.num < 0)) (hl : y.num.natAbs * x.den ≤ x.num.natAbs * y.den) : x.num * (y.den : Int) + y.num * (x.den : Int) = sgn (decide (x.num < 0)) (x.num.natAbs * y.den - y.num.natAbs * x.den) := by
  have hx := sgn_self x.num
  have hy := sgn_self y.num
  have hn : decide (y.num < 0) = !decide (x.num < 0) := by revert h; cases decide (x.num < 0) <;> cases decide (y.num < 0) <;> simp
  rw [hn] at hy
  generalize decide (x.num < 0) = b at *
  conv => lhs; rw [← hx, ← hy]
  generalize x.num.natAbs = m at *
  generalize y.num.natAbs = n at *
  have hc : ((m * y.den - n * x.den : Nat) : Int) = (m : Int) * (y.den : Int) - (n : Int) * (x.den : Int) := by rw [Int.ofNat_sub hl, Int.natCast_mul, Int.natCast_mul]
  cases b
  · simp only [sgn, Bool.not_false, if_true]; simp [hc, Int.neg_mul]; omega
  · simp only [sgn, Bool.not_true, if_true]; simp [hc, Int.neg_mul]; omega
theorem more_pos {x y : Rat} (h : decide (x.num < 0) ≠ decide (y.num < 0)) (hl : y.num.natAbs * x.den ≤ x.num.natAbs * y.den) : 0 < x.num.natAbs * y.den := by
  rcases Nat.eq_zero_or_pos (x.num.natAbs * y.den) with h0 | h0
  · exfalso
    have h1 : y.num.natAbs * x.den = 0 := by omega
    have hx : x.num.natAbs = 0 := by rcases Nat.mul_eq_zero.1 h0 with h | h; exact h; exact absurd h y.den_nz
    have hy : y.num.natAbs = 0 := by rcases Nat.mul_eq_zero.1 h1 with h | h; exact h; exact absurd h x.den_nz
    apply h
    have e1 : x.num = 0 := by omega
    have e2 : y.num = 0 := by omega
    rw [e1, e2]
  · exact h0
theorem mul_sgn (x y : Rat) : x.num * y.num = sgn (decide (x.num < 0) != decide (y.num < 0)) (x.num.natAbs * y.num.natAbs) := by
  have hx := sgn_self x.num
  have hy := sgn_self y.num
  generalize decide (x.num < 0) = b at *
  generalize decide (y.num < 0) = c at *
  conv => lhs; rw [← hx, ← hy]
  generalize x.num.natAbs = m
  generalize y.num.natAbs = n
  cases b <;> cases c <;> simp [sgn, Int.neg_mul, Int.mul_neg]
theorem den_pos (x y : Rat) : x.den * y.den ≠ 0 := Nat.mul_ne_zero x.den_nz y.den_nz
theorem inv_facts {x : Rat} (h : x.num ≠ 0) : x⁻¹.num.natAbs = x.den ∧ x⁻¹.den = x.num.natAbs ∧ decide (x⁻¹.num < 0) = decide (x.num < 0) ∧ x⁻¹.num ≠ 0 := by
  have h1 := Rat.num_inv x
  have h2 := Rat.den_inv x
  have hd := x.den_nz
  refine ⟨?_, ?_, ?_, ?_⟩
  · rw [h1, Int.natAbs_mul, Int.natAbs_sign_of_ne_zero h]; simp
  · rw [h2, if_neg h]
  · rw [h1]
    rcases Int.lt_or_gt_of_ne h with h3 | h3
    · rw [Int.sign_eq_neg_one_of_neg h3]; simp [h3]; omega
    · rw [Int.sign_eq_one_of_pos h3]; simp; omega
  · rw [h1]
    rcases Int.lt_or_gt_of_ne h with h3 | h3
    · rw [Int.sign_eq_neg_one_of_neg h3]; omega
    · rw [Int.sign_eq_one_of_pos h3]; omega
end Nm
end Go.Proofs.Ytkinapdfmgfdfaa
