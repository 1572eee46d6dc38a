/- The plain law of RatiosAddUp. -/
import Derived.Test.YtepgibhgjhjjaaaRatL
import Derived.Test.YtepgibhgjhjjaaaRat9
namespace Go.Proofs.Ytepgibhgjhjjaaa
namespace Nm
theorem outF_zero {q : Rat} (h : outF q = 0) : Fits q := by
  unfold outF at h
  by_cases hf : Fits q
  · exact hf
  · rw [if_neg hf] at h; cases h
theorem out_fits {q : Rat} (h : Fits q) : outN q = showN q ∧ outD q = showD q ∧ outF q = 0 := by
  unfold outN outD outF; rw [if_pos h, if_pos h, if_pos h]; exact ⟨rfl, rfl, rfl⟩
theorem bF_zero {n1 d1 n2 d2 : ByteArray} (h : bF n1 d1 n2 d2 = 0) : rF n1 d1 = 0 ∧ rF n2 d2 = 0 := by
  unfold bF at h
  by_cases h1 : rF n1 d1 = 0
  · rw [if_neg (by simpa using h1)] at h; exact ⟨h1, h⟩
  · rw [if_pos h1] at h; exact absurd h h1
theorem bF_mk {n1 d1 n2 d2 : ByteArray} (h1 : rF n1 d1 = 0) (h2 : rF n2 d2 = 0) : bF n1 d1 n2 d2 = 0 := by
  unfold bF; rw [if_neg (by simpa using h1)]; exact h2
theorem op_ok {op : Rat → Rat → Rat} {n1 d1 n2 d2 : ByteArray} (h : opF op n1 d1 n2 d2 = 0) : rF n1 d1 = 0 ∧ rF n2 d2 = 0 ∧ Fits (op (rQ n1 d1) (rQ n2 d2)) ∧ opN op n1 d1 n2 d2 = showN (op (rQ n1 d1) (rQ n2 d2)) ∧ opD op n1 d1 n2 d2 = showD (op (rQ n1 d1) (rQ n2 d2)) ∧ rF (opN op n1 d1 n2 d2) (opD op n1 d1 n2 d2) = 0 ∧ rQ (opN op n1 d1 n2 d2) (opD op n1 d1 n2 d2) = op (rQ n1 d1) (rQ n2 d2) := by
  unfold opF at h
  by_cases hb : bF n1 d1 n2 d2 = 0
  · rw [if_pos hb] at h
    have hf := outF_zero h
    obtain ⟨k1, k2, k3⟩ := out_fits hf
    obtain ⟨z1, z2⟩ := bF_zero hb
    have e1 : opN op n1 d1 n2 d2 = showN (op (rQ n1 d1) (rQ n2 d2)) := by unfold opN; rw [if_pos hb, k1]
    have e2 : opD op n1 d1 n2 d2 = showD (op (rQ n1 d1) (rQ n2 d2)) := by unfold opD; rw [if_pos hb, k2]
    obtain ⟨b1, b2⟩ := back hf
    exact ⟨z1, z2, hf, e1, e2, by rw [e1, e2]; exact b1, by rw [e1, e2]; exact b2⟩
  · rw [if_neg hb] at h; exact absurd h hb
theorem op_comm (n1 d1 n2 d2 : ByteArray) : opN (· + ·) n2 d2 n1 d1 = opN (· + ·) n1 d1 n2 d2 ∧ opD (· + ·) n2 d2 n1 d1 = opD (· + ·) n1 d1 n2 d2 := by
  unfold opN opD
  by_cases hb : bF n1 d1 n2 d2 = 0
  · obtain ⟨z1, z2⟩ := bF_zero hb
    rw [if_pos hb, if_pos hb, if_pos (bF_mk z2 z1), if_pos (bF_mk z2 z1)]
    show outN (rQ n2 d2 + rQ n1 d1) = outN (rQ n1 d1 + rQ n2 d2) ∧ outD (rQ n2 d2 + rQ n1 d1) = outD (rQ n1 d1 + rQ n2 d2)
    rw [Rat.add_comm]; exact ⟨rfl, rfl⟩
  · have hb2 : ¬ bF n2 d2 n1 d1 = 0 := fun h => hb (bF_mk (bF_zero h).2 (bF_zero h).1)
    rw [if_neg hb, if_neg hb, if_neg hb2, if_neg hb2]; exact ⟨rfl, rfl⟩
/-- a product with a sum is the sum of the products -/
theorem distr {n1 d1 n2 d2 n3 d3 : ByteArray} (h1 : opF (· + ·) n1 d1 n2 d2 = 0) (h2 : opF (· * ·) (opN (· + ·) n1 d1 n2 d2) (opD (· + ·) n1 d1 n2 d2) n3 d3 = 0) (h3 : opF (· * ·) n1 d1 n3 d3 = 0) (h4 : opF (· * ·) n2 d2 n3 d3 = 0)
    (h5 : opF (· + ·) (opN (· * ·) n1 d1 n3 d3) (opD (· * ·) n1 d1 n3 d3) (opN (· * ·) n2 d2 n3 d3) (opD (· * ·) n2 d2 n3 d3) = 0) :
    opN (· * ·) (opN (· + ·) n1 d1 n2 d2) (opD (· + ·) n1 d1 n2 d2) n3 d3 = opN (· + ·) (opN (· * ·) n1 d1 n3 d3) (opD (· * ·) n1 d1 n3 d3) (opN (· * ·) n2 d2 n3 d3) (opD (· * ·) n2 d2 n3 d3) ∧ opD (· * ·) (opN (· + ·) n1 d1 n2 d2) (opD (· + ·) n1 d1 n2 d2) n3 d3 = opD (· + ·) (opN (· * ·) n1 d1 n3 d3) (opD (· * ·) n1 d1 n3 d3) (opN (· * ·) n2 d2 n3 d3) (opD (· * ·) n2 d2 n3 d3) := by
  obtain ⟨_, _, _, _, _, _, a7⟩ := op_ok h1
  obtain ⟨_, _, _, b4, b5, _, _⟩ := op_ok h2
  obtain ⟨_, _, _, _, _, _, c7⟩ := op_ok h3
  obtain ⟨_, _, _, _, _, _, e7⟩ := op_ok h4
  obtain ⟨_, _, _, f4, f5, _, _⟩ := op_ok h5
  have key : (rQ (opN (· + ·) n1 d1 n2 d2) (opD (· + ·) n1 d1 n2 d2)) * rQ n3 d3 = rQ (opN (· * ·) n1 d1 n3 d3) (opD (· * ·) n1 d1 n3 d3) + rQ (opN (· * ·) n2 d2 n3 d3) (opD (· * ·) n2 d2 n3 d3) := by
    rw [a7, c7, e7]; exact Rat.add_mul _ _ _
  rw [b4, b5, f4, f5]
  exact ⟨congrArg showN key, congrArg showD key⟩
/-- what is inverted twice is as it was -/
theorem twice {n d : ByteArray} (h : iF n d = 0) : iF (iN n d) (iD n d) = 0 ∧ iN (iN n d) (iD n d) = n ∧ iD (iN n d) (iD n d) = d := by
  have h' := h
  unfold iF at h
  by_cases h1 : rF n d = 0
  · rw [if_neg (by simpa using h1)] at h
    by_cases h0 : (rQ n d).num = 0
    · rw [if_pos h0] at h; cases h
    · rw [if_neg h0] at h
      have hf := outF_zero h
      obtain ⟨k1, k2, k3⟩ := out_fits hf
      obtain ⟨b1, b2⟩ := back hf
      have e1 : iN n d = showN (rQ n d)⁻¹ := by unfold iN; rw [if_neg (by simpa using h1), if_neg h0, k1]
      have e2 : iD n d = showD (rQ n d)⁻¹ := by unfold iD; rw [if_neg (by simpa using h1), if_neg h0, k2]
      obtain ⟨s1, s2, s3⟩ := show_back h1
      obtain ⟨j1, j2, j3⟩ := out_fits s3
      have h0' := (inv_facts h0).2.2.2
      rw [e1, e2]
      refine ⟨?_, ?_, ?_⟩
      · unfold iF; rw [if_neg (by simpa using b1), b2, if_neg h0', Rat.inv_inv, j3]
      · unfold iN; rw [if_neg (by simpa using b1), b2, if_neg h0', Rat.inv_inv, j1, s1]
      · unfold iD; rw [if_neg (by simpa using b1), b2, if_neg h0', Rat.inv_inv, j2, s2]
  · rw [if_pos h1] at h; exact absurd h h1
theorem out_size (q : Rat) : (outN q).size ≤ maxLen ∧ (outD q).size ≤ maxLen := by
  unfold outN outD
  by_cases h : Fits q
  · rw [if_pos h, if_pos h]
    obtain ⟨h1, h2⟩ := h
    constructor
    · unfold showN; rw [strOf_size]; unfold numL maxLen; split
      · simp; omega
      · omega
    · unfold showD; rw [strOf_size]; unfold maxLen; omega
  · rw [if_neg h, if_neg h]; exact ⟨Nat.zero_le _, Nat.zero_le _⟩
theorem op_size (op : Rat → Rat → Rat) (n1 d1 n2 d2 : ByteArray) : (opN op n1 d1 n2 d2).size ≤ maxLen ∧ (opD op n1 d1 n2 d2).size ≤ maxLen := by
  unfold opN opD
  split
  · exact out_size _
  · exact ⟨Nat.zero_le _, Nat.zero_le _⟩
theorem inv_size (n d : ByteArray) : (iN n d).size ≤ maxLen ∧ (iD n d).size ≤ maxLen := by
  unfold iN iD
  split
  · exact ⟨Nat.zero_le _, Nat.zero_le _⟩
  · split
    · exact ⟨Nat.zero_le _, Nat.zero_le _⟩
    · exact out_size _
end Nm
end Go.Proofs.Ytepgibhgjhjjaaa
