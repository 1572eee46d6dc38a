/- Plain: the evidence as a number: it starts at 1, is never below 0, and a pair leaves it as it is on average. -/
import Derived.Test.YtmnmepbljegjeaaGreatDoorBa29
namespace Go.Proofs.YtmnmepbljegjeaaGreatDoor
namespace Nm

theorem rpow_add (a : Rat) (n m : Nat) : a ^ (n + m) = a ^ n * a ^ m := by
  induction m with
  | zero => simp [Rat.pow_zero, Rat.mul_one]
  | succ m ih => rw [← Nat.add_assoc, Rat.pow_succ, Rat.pow_succ, ih, Rat.mul_assoc]
theorem rmul_pow (a b : Rat) (n : Nat) : (a * b) ^ n = a ^ n * b ^ n := by
  induction n with
  | zero => simp [Rat.pow_zero, Rat.mul_one]
  | succ n ih => rw [Rat.pow_succ, Rat.pow_succ, Rat.pow_succ, ih]; grind
theorem ne_of_pos {a : Rat} (h : 0 < a) : a ≠ 0 := fun e => by rw [e] at h; exact absurd h (by decide)
theorem rpow_ne {a : Rat} (h : 0 < a) (n : Nat) : a ^ n ≠ 0 := ne_of_pos (Rat.pow_pos h)
/-- what a bet has made of 1 -/
def winR (bets k : Nat) : Rat := ((bets + 1 + k : Nat) : Rat) / ((bets + 1 : Nat) : Rat)
def loseR (bets k : Nat) : Rat := ((bets + 1 - k : Nat) : Rat) / ((bets + 1 : Nat) : Rat)
def betR (bets up down k : Nat) : Rat := winR bets k ^ up * loseR bets k ^ down
def sideS (bets up down : Nat) : Nat → Rat
  | 0 => 0
  | k + 1 => sideS bets up down k + betR bets up down (k + 1)
def sideR (bets up down : Nat) : Rat := sideS bets up down bets / (bets : Rat)
theorem natCast_pos {n : Nat} (h : 0 < n) : (0 : Rat) < ((n : Nat) : Rat) := by
  have := Rat.natCast_lt_natCast.2 h
  exact this
theorem natCast_nonneg (n : Nat) : (0 : Rat) ≤ ((n : Nat) : Rat) := by
  have := (Rat.natCast_le_natCast (a := 0) (b := n)).2 (Nat.zero_le _)
  exact this
theorem div_nonneg {a b : Rat} (h : 0 ≤ a) (k : 0 < b) : 0 ≤ a / b := by
  rw [Rat.div_def]
  exact Rat.mul_nonneg h (Rat.le_of_lt (Rat.inv_pos.2 k))
theorem cap_side (bets up down : Nat) : ∀ k, ((capS bets up down k : Nat) : Rat) = ((bets + 1 : Nat) : Rat) ^ (up + down) * sideS bets up down k
  | 0 => by simp [capS, sideS, Rat.mul_zero]
  | k + 1 => by
    have hp : (0 : Rat) < ((bets + 1 : Nat) : Rat) := natCast_pos (by omega)
    have h1 := rpow_ne hp up
    have h2 := rpow_ne hp down
    have ew : ((bets + 1 : Nat) : Rat) * winR bets (k + 1) = ((bets + 1 + (k + 1) : Nat) : Rat) := by
      unfold winR
      generalize ((bets + 1 + (k + 1) : Nat) : Rat) = x
      have := ne_of_pos hp
      grind
    have el : ((bets + 1 : Nat) : Rat) * loseR bets (k + 1) = ((bets + 1 - (k + 1) : Nat) : Rat) := by
      unfold loseR
      generalize ((bets + 1 - (k + 1) : Nat) : Rat) = x
      have := ne_of_pos hp
      grind
    show (((capS bets up down k + (bets + 1 + (k + 1)) ^ up * (bets + 1 - (k + 1)) ^ down : Nat)) : Rat) = _
    rw [Rat.natCast_add, Rat.natCast_mul, Rat.natCast_pow, Rat.natCast_pow, cap_side bets up down k, ← ew, ← el]
    show _ = _ * (sideS bets up down k + betR bets up down (k + 1))
    unfold betR
    rw [rmul_pow, rmul_pow, rpow_add]
    generalize ((bets + 1 : Nat) : Rat) ^ up = A
    generalize ((bets + 1 : Nat) : Rat) ^ down = B
    grind
/-- the evidence of a direction -/
def evR (d : Int) (bets up down : Nat) : Rat := if d = 1 then sideR bets up down else if d = 2 then sideR bets down up else (sideR bets up down + sideR bets down up) / 2
theorem evQ_real (d : Int) (h1 : 1 ≤ d) (h3 : d ≤ 3) (bets : Nat) (hb : 1 ≤ bets) (up down : Nat) : evQ d bets up down = evR d bets up down := by
  have hp : (0 : Rat) < ((bets + 1 : Nat) : Rat) := natCast_pos (by omega)
  have hb' := ne_of_pos (natCast_pos (n := bets) (by omega))
  have h2 := rpow_ne hp (up + down)
  have c1 := cap_side bets up down bets
  have c2 := cap_side bets down up bets
  rw [Nat.add_comm down up] at c2
  unfold evQ
  rw [Rat.mkRat_eq_div, Rat.intCast_natCast]
  unfold evSum evDen evParts evR sideR capN
  obtain rfl | rfl | rfl : d = 1 ∨ d = 2 ∨ d = 3 := by omega
  · simp only [if_true, show ¬ ((1 : Int) = 2) by decide, if_false, Nat.add_zero, Nat.mul_one, Rat.natCast_mul, Rat.natCast_pow, c1]
    generalize ((bets + 1 : Nat) : Rat) ^ (up + down) = P at *
    grind
  · simp only [if_true, show ¬ ((2 : Int) = 1) by decide, if_false, Nat.zero_add, Nat.mul_one, Rat.natCast_mul, Rat.natCast_pow, c2]
    generalize ((bets + 1 : Nat) : Rat) ^ (up + down) = P at *
    grind
  · simp only [show ¬ ((3 : Int) = 1) by decide, show ¬ ((3 : Int) = 2) by decide, if_false, Rat.natCast_mul, Rat.natCast_pow, Rat.natCast_add, c1, c2]
    rw [Rat.natCast_add] at h2
    generalize (((bets : Nat) : Rat) + ((1 : Nat) : Rat)) ^ (up + down) = P at *
    have e2 : ((1 : Nat) : Rat) + ((1 : Nat) : Rat) = 2 := by rw [← Rat.natCast_add]; rfl
    rw [e2]
    grind
theorem betR_nonneg (bets up down k : Nat) : 0 ≤ betR bets up down k := by
  have hp : (0 : Rat) < ((bets + 1 : Nat) : Rat) := natCast_pos (by omega)
  exact Rat.mul_nonneg (Rat.pow_nonneg (div_nonneg (natCast_nonneg _) hp)) (Rat.pow_nonneg (div_nonneg (natCast_nonneg _) hp))
theorem sideS_nonneg (bets up down : Nat) : ∀ k, 0 ≤ sideS bets up down k
  | 0 => Rat.le_refl
  | k + 1 => by
    have h1 := sideS_nonneg bets up down k
    have h2 := betR_nonneg bets up down (k + 1)
    show 0 ≤ sideS bets up down k + betR bets up down (k + 1)
    grind
theorem sideR_nonneg (bets : Nat) (hb : 1 ≤ bets) (up down : Nat) : 0 ≤ sideR bets up down := div_nonneg (sideS_nonneg _ _ _ _) (natCast_pos (by omega))
theorem evR_nonneg (d : Int) (bets : Nat) (hb : 1 ≤ bets) (up down : Nat) : 0 ≤ evR d bets up down := by
  have h1 := sideR_nonneg bets hb up down
  have h2 := sideR_nonneg bets hb down up
  unfold evR
  split
  · exact h1
  · split
    · exact h2
    · exact div_nonneg (by grind) (by decide)
theorem sideS_zero (bets : Nat) : ∀ k, sideS bets 0 0 k = (k : Rat)
  | 0 => rfl
  | k + 1 => by
    show sideS bets 0 0 k + betR bets 0 0 (k + 1) = _
    rw [sideS_zero bets k]
    unfold betR
    rw [Rat.pow_zero, Rat.pow_zero, Rat.natCast_add, Rat.mul_one]; rfl
theorem evR_zero (d : Int) (bets : Nat) (hb : 1 ≤ bets) : evR d bets 0 0 = 1 := by
  have hb' := ne_of_pos (natCast_pos (n := bets) (by omega))
  have h : sideR bets 0 0 = 1 := by unfold sideR; rw [sideS_zero]; grind
  unfold evR
  rw [h]
  split
  · rfl
  · split
    · rfl
    · grind
/-- a pair more, on average -/
theorem bet_step (bets up down k : Nat) (hk : k ≤ bets) (u d e : Rat) (hs : u + d + e = 1) :
    u * betR bets (up + 1) down k + d * betR bets up (down + 1) k + e * betR bets up down k = betR bets up down k + betR bets up down k * ((k : Rat) / ((bets + 1 : Nat) : Rat)) * (u - d) := by
  have hp : (0 : Rat) < ((bets + 1 : Nat) : Rat) := natCast_pos (by omega)
  have hne := ne_of_pos hp
  have ew : winR bets k = 1 + (k : Rat) / ((bets + 1 : Nat) : Rat) := by
    unfold winR
    rw [Rat.natCast_add (bets + 1) k]
    generalize ((bets + 1 : Nat) : Rat) = x at *
    grind
  have el : loseR bets k = 1 - (k : Rat) / ((bets + 1 : Nat) : Rat) := by
    unfold loseR
    have : ((bets + 1 - k : Nat) : Rat) = ((bets + 1 : Nat) : Rat) - (k : Rat) := by
      have h1 : ((bets + 1 - k + k : Nat) : Rat) = ((bets + 1 : Nat) : Rat) := by rw [Nat.sub_add_cancel (by omega)]
      rw [Rat.natCast_add (bets + 1 - k) k] at h1
      grind
    rw [this]
    generalize ((bets + 1 : Nat) : Rat) = x at *
    grind
  unfold betR
  rw [Rat.pow_succ, Rat.pow_succ]
  have e1 : u * (winR bets k ^ up * winR bets k * loseR bets k ^ down) = winR bets k ^ up * loseR bets k ^ down * (u * winR bets k) := by grind
  have e2 : d * (winR bets k ^ up * (loseR bets k ^ down * loseR bets k)) = winR bets k ^ up * loseR bets k ^ down * (d * loseR bets k) := by grind
  rw [e1, e2]
  generalize winR bets k ^ up * loseR bets k ^ down = c
  rw [ew, el]
  have : e = 1 - u - d := by grind
  subst this
  grind
theorem sideS_step (bets up down : Nat) (u d e : Rat) (hs : u + d + e = 1) : ∀ k, k ≤ bets →
    (u ≤ d → u * sideS bets (up + 1) down k + d * sideS bets up (down + 1) k + e * sideS bets up down k ≤ sideS bets up down k) ∧
    (u = d → u * sideS bets (up + 1) down k + d * sideS bets up (down + 1) k + e * sideS bets up down k = sideS bets up down k)
  | 0, _ => by
    show (u ≤ d → u * 0 + d * 0 + e * 0 ≤ (0 : Rat)) ∧ (u = d → u * 0 + d * 0 + e * 0 = (0 : Rat))
    constructor
    · intro _; grind
    · intro _; grind
  | k + 1, hk => by
    obtain ⟨h1, h2⟩ := sideS_step bets up down u d e hs k (by omega)
    have h3 := bet_step bets up down (k + 1) hk u d e hs
    have h4 : 0 ≤ betR bets up down (k + 1) * (((k + 1 : Nat) : Rat) / ((bets + 1 : Nat) : Rat)) :=
      Rat.mul_nonneg (betR_nonneg _ _ _ _) (div_nonneg (natCast_nonneg _) (natCast_pos (by omega)))
    show (u ≤ d → u * (sideS bets (up + 1) down k + betR bets (up + 1) down (k + 1)) + d * (sideS bets up (down + 1) k + betR bets up (down + 1) (k + 1)) + e * (sideS bets up down k + betR bets up down (k + 1)) ≤ sideS bets up down k + betR bets up down (k + 1)) ∧ (u = d → u * (sideS bets (up + 1) down k + betR bets (up + 1) down (k + 1)) + d * (sideS bets up (down + 1) k + betR bets up (down + 1) (k + 1)) + e * (sideS bets up down k + betR bets up down (k + 1)) = sideS bets up down k + betR bets up down (k + 1))
    generalize betR bets up down (k + 1) * (((k + 1 : Nat) : Rat) / ((bets + 1 : Nat) : Rat)) = z at h3 h4
    constructor
    · intro hud
      have h5 := h1 hud
      have h6 : z * (u - d) ≤ 0 := by
        have : 0 ≤ z * (d - u) := Rat.mul_nonneg h4 (by grind)
        grind
      grind
    · intro hud
      have h5 := h2 hud
      have h6 : z * (u - d) = 0 := by rw [hud]; grind
      grind
theorem sideR_step (bets : Nat) (hb : 1 ≤ bets) (up down : Nat) (u d e : Rat) (hs : u + d + e = 1) :
    (u ≤ d → u * sideR bets (up + 1) down + d * sideR bets up (down + 1) + e * sideR bets up down ≤ sideR bets up down) ∧
    (u = d → u * sideR bets (up + 1) down + d * sideR bets up (down + 1) + e * sideR bets up down = sideR bets up down) := by
  obtain ⟨h1, h2⟩ := sideS_step bets up down u d e hs bets (Nat.le_refl _)
  have hp := natCast_pos (n := bets) (by omega)
  have hi : 0 ≤ ((bets : Nat) : Rat)⁻¹ := Rat.le_of_lt (Rat.inv_pos.2 hp)
  unfold sideR
  simp only [Rat.div_def]
  generalize ((bets : Nat) : Rat)⁻¹ = i at *
  generalize sideS bets (up + 1) down bets = x at *
  generalize sideS bets up (down + 1) bets = y at *
  generalize sideS bets up down bets = z at *
  constructor
  · intro hud
    have h3 := Rat.mul_le_mul_of_nonneg_right (h1 hud) hi
    grind
  · intro hud
    have h3 := h2 hud
    have h4 : (u * x + d * y + e * z) * i = z * i := by rw [h3]
    grind
/-- which way chances must lean that the evidence does not grow on average -/
def leans (d : Int) (u v : Rat) : Prop := (d = 1 ∧ u ≤ v) ∨ (d = 2 ∧ v ≤ u) ∨ u = v
theorem evR_step (d : Int) (h1 : 1 ≤ d) (h3 : d ≤ 3) (bets : Nat) (hb : 1 ≤ bets) (up down : Nat) (u v e : Rat) (hs : u + v + e = 1) (hl : leans d u v) :
    u * evR d bets (up + 1) down + v * evR d bets up (down + 1) + e * evR d bets up down ≤ evR d bets up down := by
  have a1 := sideR_step bets hb up down u v e hs
  have a2 := sideR_step bets hb down up v u e (by grind)
  unfold evR
  obtain rfl | rfl | rfl : d = 1 ∨ d = 2 ∨ d = 3 := by omega
  · simp only [if_true]
    have : u ≤ v := by
      rcases hl with ⟨_, h⟩ | ⟨h, _⟩ | h
      · exact h
      · cases h
      · rw [h]; exact Rat.le_refl
    exact a1.1 this
  · simp only [if_true, show ¬ ((2 : Int) = 1) by decide, if_false]
    have : v ≤ u := by
      rcases hl with ⟨h, _⟩ | ⟨_, h⟩ | h
      · cases h
      · exact h
      · rw [h]; exact Rat.le_refl
    have := a2.1 this
    grind
  · simp only [show ¬ ((3 : Int) = 1) by decide, show ¬ ((3 : Int) = 2) by decide, if_false]
    have h : u = v := by
      rcases hl with ⟨h, _⟩ | ⟨h, _⟩ | h
      · cases h
      · cases h
      · exact h
    have b1 := a1.2 h
    have b2 := a2.2 h.symm
    grind
end Nm
end Go.Proofs.YtmnmepbljegjeaaGreatDoor
