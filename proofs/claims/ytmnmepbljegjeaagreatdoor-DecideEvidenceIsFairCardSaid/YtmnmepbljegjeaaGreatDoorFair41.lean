/- Plain: the numbers of the law of fair evidence, and how short they are. Several new blocks at once, each of which may be written. No program stands in it. -/
import Derived.Test.YtmnmepbljegjeaaGreatDoorFair16
import Derived.Test.YtmnmepbljegjeaaGreatDoorFair40
import Derived.Test.YtmnmepbljegjeaaGreatDoorFair03
namespace Go.Proofs.YtmnmepbljegjeaaGreatDoor
namespace Nm
def fairT (d : Int) (bets N j : Nat) : Rat := ((chooseN N j : Nat) : Rat) * evR d bets j (N - j)
def fairS (d : Int) (bets N m : Nat) : Rat := sumR (fairT d bets N) m
theorem fairS_all (d : Int) (bets : Nat) (hb : 1 ≤ bets) (N : Nat) : fairS d bets N (N + 1) = 2 ^ N := ev_fair d bets hb N
theorem fairS_zero (d : Int) (bets N : Nat) : fairS d bets N 0 = 0 := rfl
theorem ways_zero (N : Nat) : ((chooseN N 0 : Nat) : Rat) = 1 := by rw [chooseN_zero]; rfl
theorem fairS_step (d : Int) (bets N m : Nat) : fairS d bets N m + fairT d bets N m = fairS d bets N (m + 1) := rfl
theorem evSum_le (d : Int) (bets up down : Nat) (hb : bets ≤ 5) (hu : up ≤ 60) (hd : down ≤ 60) : evSum d bets up down ≤ 10 * 11 ^ 120 := by
  have h1 := capS_le bets up down hb hu hd bets (Nat.le_refl _)
  have h2 := capS_le bets down up hb hd hu bets (Nat.le_refl _)
  have h3 : bets * 11 ^ 120 ≤ 5 * 11 ^ 120 := Nat.mul_le_mul_right _ hb
  unfold evSum capN
  generalize (11 : Nat) ^ 120 = P at *
  (repeat' split) <;> omega
/-- all terms over one denominator -/
def fairD (d : Int) (bets N : Nat) : Nat := (bets + 1) ^ N * (bets * evParts d)
theorem fairD_le (d : Int) (h1 : 1 ≤ d) (h3 : d ≤ 3) (bets N : Nat) (hb1 : 1 ≤ bets) (hb : bets ≤ 5) (hN : N ≤ 19) : fairD d bets N ≠ 0 ∧ fairD d bets N ≤ 10 ^ 20 := by
  have hp := evParts_pos d h1 h3
  unfold fairD
  have e1 : (bets + 1) ^ N ≤ 6 ^ 19 := Nat.le_trans (Nat.pow_le_pow_left (show bets + 1 ≤ 6 by omega) N) (Nat.pow_le_pow_right (by decide) hN)
  have e2 : bets * evParts d ≤ 5 * 2 := Nat.mul_le_mul hb hp.2
  have e3 : 0 < (bets + 1) ^ N := Nat.pow_pos (by omega)
  have e4 : 0 < bets * evParts d := Nat.mul_pos (by omega) (by omega)
  refine ⟨Nat.ne_of_gt (Nat.mul_pos e3 e4), Nat.le_trans (Nat.mul_le_mul e1 e2) (by decide)⟩
theorem fairT_fz (d : Int) (h1 : 1 ≤ d) (h3 : d ≤ 3) (bets N j : Nat) (hb1 : 1 ≤ bets) (hb : bets ≤ 5) (hN : N ≤ 19) (hj : j ≤ N) : FZ (fairD d bets N) (2 ^ 19 * (10 * 11 ^ 120)) (fairT d bets N j) := by
  unfold fairT
  rw [← evQ_real d h1 h3 bets hb1]
  have e : evQ d bets j (N - j) = mkRat (evSum d bets j (N - j) : Int) (fairD d bets N) := by
    unfold evQ evDen fairD
    rw [Nat.add_sub_cancel' hj]
  rw [e]
  have hc : chooseN N j ≤ 2 ^ 19 := Nat.le_trans (chooseN_le N j) (Nat.pow_le_pow_right (by decide) hN)
  have h := (FZ.nat hc).mul (q := mkRat (evSum d bets j (N - j) : Int) (fairD d bets N)) (E := fairD d bets N) (N := 10 * 11 ^ 120) ⟨(fairD_le d h1 h3 bets N hb1 hb hN).1, _, by rw [Int.natAbs_natCast]; exact evSum_le d bets j (N - j) hb (by omega) (by omega), rfl⟩
  rw [Nat.one_mul] at h
  exact h
theorem fairS_fz (d : Int) (h1 : 1 ≤ d) (h3 : d ≤ 3) (bets N : Nat) (hb1 : 1 ≤ bets) (hb : bets ≤ 5) (hN : N ≤ 19) : ∀ m, m ≤ N + 1 → FZ (fairD d bets N) (m * (2 ^ 19 * (10 * 11 ^ 120))) (fairS d bets N m)
  | 0, _ => FZ.zero (fairD_le d h1 h3 bets N hb1 hb hN).1 _
  | m + 1, hm => by
    rw [← fairS_step, Nat.add_mul, Nat.one_mul]
    exact (fairS_fz d h1 h3 bets N hb1 hb hN m (by omega)).add (fairT_fz d h1 h3 bets N m hb1 hb hN (by omega))
theorem fair_fits (d : Int) (h1 : 1 ≤ d) (h3 : d ≤ 3) (bets N : Nat) (hb1 : 1 ≤ bets) (hb : bets ≤ 5) (hN : N ≤ 19) (j : Nat) (hj : j ≤ N) : Fits (fairT d bets N j) ∧ Fits (fairS d bets N j) ∧ Fits (fairS d bets N (j + 1)) := by
  have hD := (fairD_le d h1 h3 bets N hb1 hb hN).2
  have s : ∀ m, m ≤ 20 → m * (2 ^ 19 * (10 * 11 ^ 120)) ≤ 10 ^ 150 := fun m hm => Nat.le_trans (Nat.mul_le_mul_right _ hm) (by decide)
  refine ⟨((fairT_fz d h1 h3 bets N j hb1 hb hN hj).ln (a := 150) (b := 20) (by decide) hD).fits (by omega) (by omega), ?_, ?_⟩
  · exact ((fairS_fz d h1 h3 bets N hb1 hb hN j (by omega)).ln (a := 150) (b := 20) (s j (by omega)) hD).fits (by omega) (by omega)
  · exact ((fairS_fz d h1 h3 bets N hb1 hb hN (j + 1) (by omega)).ln (a := 150) (b := 20) (s (j + 1) (by omega)) hD).fits (by omega) (by omega)
theorem chooseN_ln {N j : Nat} (hN : N ≤ 19) : Ln 6 0 ((chooseN N j : Nat) : Rat) := Ln.nat (Nat.le_trans (chooseN_le N j) (Nat.le_trans (Nat.pow_le_pow_right (by decide) hN) (by decide)))
theorem ways_step {N j : Nat} (hj : j ≤ N) : ((chooseN N j : Nat) : Rat) * ((N - j : Nat) : Rat) / ((j + 1 : Nat) : Rat) = ((chooseN N (j + 1) : Nat) : Rat) := by
  have h := chooseN_next N j hj
  have h' : (((j + 1) * chooseN N (j + 1) : Nat) : Rat) = (((N - j) * chooseN N j : Nat) : Rat) := by rw [h]
  rw [Rat.natCast_mul, Rat.natCast_mul] at h'
  have hne := ne_of_pos (natCast_pos (n := j + 1) (by omega))
  generalize ((j + 1 : Nat) : Rat) = x at *
  generalize ((N - j : Nat) : Rat) = y at *
  grind
theorem two_pow_fits (N j : Nat) (hj : j ≤ 19) : Fits ((2 : Rat) ^ j) := ((show Ln 1 0 (2 : Rat) from Ln.nat (n := 2) (by decide)).pow j).fits (by omega) (by omega)
theorem tmod_range (z : Int) {m : Int} (hm : 0 < m) : -m < z.tmod m ∧ z.tmod m < m := by
  by_cases h : 0 ≤ z
  · rw [Int.tmod_eq_emod_of_nonneg h]
    have h1 := Int.emod_nonneg z (show m ≠ 0 by omega)
    have h2 := Int.emod_lt_of_pos z hm
    omega
  · have e := Int.tmod_eq_emod_of_nonneg (a := -z) (b := m) (by omega)
    rw [Int.neg_tmod] at e
    have h1 := Int.emod_nonneg (-z) (show m ≠ 0 by omega)
    have h2 := Int.emod_lt_of_pos (-z) hm
    omega
theorem mod_twice (z : Int) : ∃ N : Nat, N ≤ 19 ∧ (Go.RowKit.wrap64 (z.tmod 20 + 20)).tmod 20 = (N : Int) := by
  have h := tmod_range z (m := 20) (by decide)
  rw [IntWalk.wrap64_in _ (by omega), Int.tmod_eq_emod_of_nonneg (by omega)]
  exact ⟨((z.tmod 20 + 20) % 20).toNat, by omega, by omega⟩
end Nm
end Go.Proofs.YtmnmepbljegjeaaGreatDoor
namespace Go.Proofs.YtmnmepbljegjeaaGreatDoor
open Go.RowKit
theorem wp_box2f {P : Program} {c : Code} {Q : Exit → Act → World → Prop} {a : Act} {w : World} {A B : Array Value} {t u : TypeId}
    (h : ∀ W, W.heap.size = w.heap.size + 2 → Below w.heap.size w W → Box W w.heap.size A → Fre W w.heap.size → Box W (w.heap.size + 1) B → Fre W (w.heap.size + 1) → c.wp P Q a W) : c.wp P Q a ((w.alloc (.cells A t)).alloc (.cells B u)) := by
  have b1 := Box.new w A t
  have f1 := Fre.new w A t
  have hb : Below (w.alloc (.cells A t)).heap.size (w.alloc (.cells A t)) ((w.alloc (.cells A t)).alloc (.cells B u)) := ext_alloc _ _
  refine h _ (by simp) (by go_grown) (b1.ext hb) (f1.ext b1 hb) ?_ ?_
  · have := Box.new (w.alloc (.cells A t)) B u
    simpa using this
  · have := Fre.new (w.alloc (.cells A t)) B u
    simpa using this
theorem wp_box3f {P : Program} {c : Code} {Q : Exit → Act → World → Prop} {a : Act} {w : World} {A B C : Array Value} {t u v : TypeId}
    (h : ∀ W, W.heap.size = w.heap.size + 3 → Below w.heap.size w W → Box W w.heap.size A → Fre W w.heap.size → Box W (w.heap.size + 1) B → Fre W (w.heap.size + 1) → Box W (w.heap.size + 2) C → Fre W (w.heap.size + 2) → c.wp P Q a W) : c.wp P Q a (((w.alloc (.cells A t)).alloc (.cells B u)).alloc (.cells C v)) := by
  have b1 := Box.new w A t
  have f1 := Fre.new w A t
  have hb : Below (w.alloc (.cells A t)).heap.size (w.alloc (.cells A t)) ((w.alloc (.cells A t)).alloc (.cells B u)) := ext_alloc _ _
  have hb2 : Below ((w.alloc (.cells A t)).alloc (.cells B u)).heap.size ((w.alloc (.cells A t)).alloc (.cells B u)) (((w.alloc (.cells A t)).alloc (.cells B u)).alloc (.cells C v)) := ext_alloc _ _
  have b2 : Box ((w.alloc (.cells A t)).alloc (.cells B u)) (w.heap.size + 1) B := by
    have := Box.new (w.alloc (.cells A t)) B u
    simpa using this
  have f2 : Fre ((w.alloc (.cells A t)).alloc (.cells B u)) (w.heap.size + 1) := by
    have := Fre.new (w.alloc (.cells A t)) B u
    simpa using this
  refine h _ (by simp) (by go_grown) ((b1.ext hb).ext hb2) ((f1.ext b1 hb).ext (b1.ext hb) hb2) (b2.ext hb2) (f2.ext b2 hb2) ?_ ?_
  · have := Box.new ((w.alloc (.cells A t)).alloc (.cells B u)) C v
    simpa using this
  · have := Fre.new ((w.alloc (.cells A t)).alloc (.cells B u)) C v
    simpa using this
end Go.Proofs.YtmnmepbljegjeaaGreatDoor
