/- Plain: sums of real pairs are possible ones; a number added to all that is measured leaves the variance as it was. No program stands in it. -/
import Derived.Test.YtilolnjbpokdnaaGreatDoorDl0
namespace Go.Proofs.YtilolnjbpokdnaaGreatDoor
open Go.RowKit
namespace Nm
/-- the form that the sums make with two weights: n times the sum of squares less the square of the sum -/
structure PSD (n : Int) (m : M5) : Prop where
  xx : 0 ≤ m.xx
  yy : 0 ≤ m.yy
  form : ∀ s t : Int, 0 ≤ (n * m.xx - m.x * m.x) * (s * s) + 2 * (n * m.xy - m.x * m.y) * (s * t) + (n * m.yy - m.y * m.y) * (t * t)
  dist : ∀ s t c : Int, 0 ≤ s * s * m.xx + 2 * (s * t) * m.xy + t * t * m.yy - 2 * c * (s * m.x + t * m.y) + n * (c * c)
theorem sq_nn (a : Int) : 0 ≤ a * a := by
  rcases Int.le_total 0 a with h | h
  · exact Int.mul_nonneg h h
  · have := Int.mul_nonneg (Int.neg_nonneg_of_nonpos h) (Int.neg_nonneg_of_nonpos h)
    rwa [Int.neg_mul_neg] at this
theorem PSD.zero : PSD 0 m5z := ⟨by decide, by decide, fun s t => by simp [m5z], fun s t c => by simp [m5z]⟩
theorem PSD.step {n : Int} {m : M5} (h : PSD n m) (p : PX) : PSD (n + 1) (m5s m p) := by
  obtain ⟨h1, h2, h3, h4⟩ := h
  refine ⟨Int.add_nonneg h1 (sq_nn _), Int.add_nonneg h2 (sq_nn _), fun s t => ?_, fun s t c => ?_⟩
  · have a1 := h3 s t
    have a2 := h4 s t (s * p.x + t * p.y)
    have e : ((n + 1) * (m5s m p).xx - (m5s m p).x * (m5s m p).x) * (s * s) + 2 * ((n + 1) * (m5s m p).xy - (m5s m p).x * (m5s m p).y) * (s * t) + ((n + 1) * (m5s m p).yy - (m5s m p).y * (m5s m p).y) * (t * t)
        = ((n * m.xx - m.x * m.x) * (s * s) + 2 * (n * m.xy - m.x * m.y) * (s * t) + (n * m.yy - m.y * m.y) * (t * t)) + (s * s * m.xx + 2 * (s * t) * m.xy + t * t * m.yy - 2 * (s * p.x + t * p.y) * (s * m.x + t * m.y) + n * ((s * p.x + t * p.y) * (s * p.x + t * p.y))) := by
      simp only [m5s]; grind
    rw [e]; exact Int.add_nonneg a1 a2
  · have a1 := h4 s t c
    have a2 := sq_nn (s * p.x + t * p.y - c)
    have e : s * s * (m5s m p).xx + 2 * (s * t) * (m5s m p).xy + t * t * (m5s m p).yy - 2 * c * (s * (m5s m p).x + t * (m5s m p).y) + (n + 1) * (c * c)
        = (s * s * m.xx + 2 * (s * t) * m.xy + t * t * m.yy - 2 * c * (s * m.x + t * m.y) + n * (c * c)) + (s * p.x + t * p.y - c) * (s * p.x + t * p.y - c) := by
      simp only [m5s]; grind
    rw [e]; exact Int.add_nonneg a1 a2
theorem PSD.list : ∀ (l : List PX) {n : Int} {m : M5}, PSD n m → PSD (n + (l.length : Int)) (m5L m l)
  | [], n, m, h => by simpa [m5L] using h
  | p :: r, n, m, h => by
    have h1 := PSD.list r (h.step p)
    have e : n + 1 + (r.length : Int) = n + ((p :: r).length : Int) := by simp only [List.length_cons]; omega
    rw [e] at h1
    exact h1
theorem PSD.facts {n : Int} {m : M5} (h : PSD n m) : 0 ≤ n * m.xx - m.x * m.x ∧ 0 ≤ n * m.yy - m.y * m.y ∧ (n * m.xy - m.x * m.y) * (n * m.xy - m.x * m.y) ≤ (n * m.xx - m.x * m.x) * (n * m.yy - m.y * m.y) := by
  have f := h.form
  generalize n * m.xx - m.x * m.x = A at f
  generalize n * m.yy - m.y * m.y = B at f
  generalize n * m.xy - m.x * m.y = C at f
  have hA : 0 ≤ A := by simpa using f 1 0
  have hB : 0 ≤ B := by simpa using f 0 1
  refine ⟨hA, hB, ?_⟩
  rcases Int.lt_or_eq_of_le hB with hB1 | hB0
  · have h1 := f B (-C)
    have e : A * (B * B) + 2 * C * (B * -C) + B * (-C * -C) = B * (A * B - C * C) := by grind
    rw [e] at h1
    have h2 := Int.nonneg_of_mul_nonneg_right h1 hB1
    omega
  · subst hB0
    have h1 := f 1 (-(C * (A + 1)))
    have e : A * (1 * 1) + 2 * C * (1 * -(C * (A + 1))) + 0 * (-(C * (A + 1)) * -(C * (A + 1))) = A - 2 * ((C * C) * (A + 1)) := by grind
    rw [e] at h1
    rw [Int.mul_zero]
    have hC := sq_nn C
    rcases Int.lt_or_eq_of_le hC with h2 | h2
    · have h3 : 1 * (A + 1) ≤ (C * C) * (A + 1) := Int.mul_le_mul_of_nonneg_right h2 (by omega)
      omega
    · omega
theorem cast_nn {z : Int} (h : 0 ≤ z) : (0 : Rat) ≤ (z : Rat) := by
  have := Rat.intCast_le_intCast.2 h
  simpa using this
theorem df_cast (n : Int) (m : M5) : dfA n (m5q m) = ((n * m.xx - m.x * m.x : Int) : Rat) ∧ dfB n (m5q m) = ((n * m.yy - m.y * m.y : Int) : Rat) ∧ dfC n (m5q m) = ((n * m.xy - m.x * m.y : Int) : Rat) := by
  simp only [dfA, dfB, dfC, m5q, Rat.intCast_sub, Rat.intCast_mul, and_self]
/-- real sums are possible -/
theorem pos_sums (l : List PX) : posB (l.length : Int) (m5q (m5L m5z l)) = true := by
  have h := PSD.list l PSD.zero
  rw [Int.zero_add] at h
  unfold posB
  by_cases h0 : (l.length : Int) = 0
  · rw [if_pos h0]
    have : l = [] := List.length_eq_zero_iff.1 (by omega)
    subst this
    decide +kernel
  · rw [if_neg h0, posB1_iff]
    obtain ⟨e1, e2, e3⟩ := df_cast (l.length : Int) (m5L m5z l)
    obtain ⟨f1, f2, f3⟩ := h.facts
    rw [e1, e2, e3]
    refine ⟨cast_nn h.xx, cast_nn h.yy, cast_nn f1, cast_nn f2, ?_⟩
    rw [← Rat.intCast_mul, ← Rat.intCast_mul]
    exact Rat.intCast_le_intCast.2 f3
/-- a number added to all that is measured -/
def pxA (d : Int) (p : PX) : PX := ⟨p.x + d, p.y⟩
theorem shift_sums (d : Int) : ∀ (l : List PX) (k : Int) (m m' : M5), m'.x = m.x + k * d → m'.xx = m.xx + 2 * d * m.x + k * (d * d) →
    (m5L m' (l.map (pxA d))).x = (m5L m l).x + (k + (l.length : Int)) * d ∧ (m5L m' (l.map (pxA d))).xx = (m5L m l).xx + 2 * d * (m5L m l).x + (k + (l.length : Int)) * (d * d)
  | [], k, m, m', h1, h2 => by simpa [m5L] using ⟨h1, h2⟩
  | p :: r, k, m, m', h1, h2 => by
    have h := shift_sums d r (k + 1) (m5s m p) (m5s m' (pxA d p)) (by simp only [m5s, pxA, h1]; grind) (by simp only [m5s, pxA, h2]; grind)
    have e : k + 1 + (r.length : Int) = k + ((p :: r).length : Int) := by simp only [List.length_cons]; omega
    rw [e] at h
    exact h
theorem shift_var {l : List PX} (d : Int) (h : 1 ≤ (l.length : Int)) : spA (l.length : Int) (m5q (m5L m5z (l.map (pxA d)))) = spA (l.length : Int) (m5q (m5L m5z l)) ∧ (m5q (m5L m5z (l.map (pxA d)))).x = (m5q (m5L m5z l)).x + ((l.length : Int) : Rat) * (d : Rat) := by
  obtain ⟨h1, h2⟩ := shift_sums d l 0 m5z m5z (by simp [m5z]) (by simp [m5z])
  rw [Int.zero_add] at h1 h2
  have hn := n_ne h
  generalize (l.length : Int) = n at *
  constructor
  · unfold spA m5q
    simp only [h1, h2, Rat.intCast_add, Rat.intCast_mul, Rat.intCast_ofNat]
    generalize ((m5L m5z l).x : Rat) = x
    generalize ((m5L m5z l).xx : Rat) = xx
    generalize (d : Rat) = d'
    generalize (n : Rat) = n' at *
    grind
  · unfold m5q
    simp only [h1, Rat.intCast_add, Rat.intCast_mul]
end Nm
end Go.Proofs.YtilolnjbpokdnaaGreatDoor
