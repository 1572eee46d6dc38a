/- What a right miss is; a test is decided just where the reference says so. -/
import Derived.Test.YtmnmepbljegjeaaGreatDoorBa34
import Derived.Test.YtmnmepbljegjeaaGreatDoorBa36
namespace Go.Proofs.YtmnmepbljegjeaaGreatDoor
open Go.RowKit
namespace lawLine
open _root_.Go.Proofs.YtmnmepbljegjeaaGreatDoor.Nm _root_.Go.Proofs.YtmnmepbljegjeaaGreatDoor.Nt
theorem miss_parts {n m : ByteArray} (h : missF n m = 0) : ∃ q, Fits q ∧ rQ n m = q ∧ n = showN q ∧ m = showD q ∧ 0 < q ∧ q < 1 ∧ Ln 100 100 q := by
  have hr := (missF_ok h).1
  obtain ⟨q, hq, hrq, hn, hm⟩ := show_parts hr
  unfold missF at h
  rw [if_neg (fun h' => h' hr)] at h
  by_cases ho : okM (rQ n m) = false
  · rw [if_pos ho] at h; cases h
  · rw [if_neg ho] at h
    have ho' : okM q = true := by rw [← hrq]; simpa using ho
    rw [okM_is] at ho'
    simp only [Bool.and_eq_true, decide_eq_true_eq] at ho'
    by_cases hl : longB n m = true
    · rw [if_pos hl] at h; cases h
    · refine ⟨q, hq, hrq, hn, hm, ho'.1, ho'.2, ?_⟩
      have hl' : longB n m = false := by simpa using hl
      unfold longB at hl'
      simp only [Bool.or_eq_false_iff, decide_eq_false_iff_not] at hl'
      obtain ⟨_, h2, h3, h4, h5, h6, h7, _⟩ := rQ_facts hr
      have l1 : (cutS n).data.toList.length = (cutS n).size := Array.length_toList
      have l2 : m.data.toList.length = m.size := Array.length_toList
      have e1 := decv_lt (whole_digs h4)
      have e2 := decv_lt (whole_digs h5)
      rw [← hrq]
      constructor
      · rw [h2, sgn_natAbs]
        exact Nat.le_trans (Nat.le_of_lt e1) (ten_le (by omega))
      · rw [h3]
        exact Nat.le_trans (Nat.le_of_lt e2) (ten_le (by omega))
theorem dec_enough {d : Int} (d1 : 1 ≤ d) (d3 : d ≤ 3) {bets : Nat} (hb : 1 ≤ bets) {q : Rat} (h0 : 0 < q) (u v : Nat) : decB d bets q⁻¹ u v = !(decide (evR d bets u v * q < 1)) := by
  unfold decB
  rw [evQ_real d d1 d3 bets hb]
  have h : (0 ≤ cmpQ (evR d bets u v) q⁻¹) ↔ ¬ (evR d bets u v * q < 1) := by
    rw [cmpQ_ge, Rat.not_lt]
    have hne := ne_of_pos h0
    have hi := Rat.inv_pos.2 h0
    constructor
    · intro h
      have := Rat.mul_le_mul_of_nonneg_right h (Rat.le_of_lt h0)
      have e : q⁻¹ * q = 1 := by grind
      rw [e] at this; exact this
    · intro h
      have := Rat.mul_le_mul_of_nonneg_right h (Rat.le_of_lt hi)
      have e : evR d bets u v * q * q⁻¹ = evR d bets u v := by grind
      rw [e, Rat.one_mul] at this; exact this
  by_cases hc : evR d bets u v * q < 1
  · rw [decide_eq_true hc, decide_eq_false (fun h' => h.1 h' hc)]; rfl
  · rw [decide_eq_false hc, decide_eq_true (h.2 hc)]; rfl
end lawLine
namespace Nt
open _root_.Go.Proofs.YtmnmepbljegjeaaGreatDoor.Nm (Fits)
theorem enough_is (e q : Rat) (r : Bool) (hr : (!(decide (e * q < 1))) = r) (h1 : Fits e) (h2 : Fits q) (h3 : Fits (e * q)) (w : World) (ht : Tab w) : Calls Tryz.prog 120 #[rtV e, rtV q] w (fun x w' => x = .returned (.bool r) ∧ Below w.heap.size w w') := by
  subst hr; exact enough_at e q _ rfl h1 h2 h3 w ht
end Nt
end Go.Proofs.YtmnmepbljegjeaaGreatDoor
