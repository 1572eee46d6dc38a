/- What is written is read back; the plain law of RatiosAddUp. -/
import Derived.Test.YtepgibhgjhjjaaaRat5
namespace Go.Proofs.Ytepgibhgjhjjaaa
namespace Nm
theorem decS_first (x : Nat) : cutB (decS x) = false := by
  obtain ⟨hd, c, r, h, _⟩ := decS_whl x
  rw [h]
  have := hd c (by rw [h]; simp)
  simp only [cutB]
  apply decide_eq_false
  intro hc
  subst hc
  have h2 : (45 : UInt8).toNat = 45 := rfl
  omega
theorem cut_show (q : Rat) : cutB (showN q).data.toList = decide (q.num < 0) ∧ (cutS (showN q)).data.toList = decS q.num.natAbs := by
  rw [cutS_list]
  unfold showN
  rw [strOf_list]
  unfold numL cutL
  by_cases h : q.num < 0
  · rw [if_pos h]; simp [cutB, h]
  · rw [if_neg h, decS_first]; simp [h]
theorem decS_ne_zero {x : Nat} (h : x ≠ 0) : (decS x == [48]) = false := by
  rw [beq_eq_false_iff_ne]
  intro e
  have := decv_decS x
  rw [e] at this
  exact h this.symm
theorem size_list (s : ByteArray) : s.size = s.data.toList.length := Array.length_toList.symm
theorem back {q : Rat} (h : Fits q) : rF (showN q) (showD q) = 0 ∧ rQ (showN q) (showD q) = q := by
  obtain ⟨h1, h2⟩ := cut_show q
  have hD : (showD q).data.toList = decS q.den := rfl
  have hv1 : decv (cutS (showN q)).data.toList = q.num.natAbs := by rw [h2, decv_decS]
  have hv2 : decv (showD q).data.toList = q.den := by rw [hD, decv_decS]
  constructor
  · unfold rF
    have hb : badR (cutS (showN q)) (showD q) (cutB (showN q).data.toList) = false := by
      unfold badR
      rw [h2, hD, h1, ByteArray.toList_eq, ByteArray.toList_eq, h2, hD, whl_whole (decS_whl _), whl_whole (decS_whl _), decS_ne_zero q.den_nz]
      by_cases hn : q.num < 0
      · rw [decS_ne_zero (by omega)]; simp
      · simp [hn]
    have hl : ¬ largeR (cutS (showN q)) (showD q) := by
      unfold largeR
      rw [size_list, size_list, h2, hD]
      have := h.1
      have := h.2
      omega
    have hg : ¬ (Nat.gcd (decv (cutS (showN q)).data.toList) (decv (showD q).data.toList) ≠ 1) := by
      rw [hv1, hv2]; exact not_not_intro q.reduced
    rw [if_neg (by rw [hb]; simp), if_neg hl, if_neg hg]
  · unfold rQ
    rw [hv1, hv2, h1, sgn_self]
    unfold mkRat
    rw [dif_neg q.den_nz]
    exact Rat.normalize_self q
theorem ext_bytes {s t : ByteArray} (h : s.data.toList = t.data.toList) : s = t := by
  apply ByteArray.ext
  exact Array.toList_inj.1 h
theorem cut_join (n : ByteArray) : n.data.toList = if cutB n.data.toList then 45 :: cutL n.data.toList else cutL n.data.toList := by
  unfold cutL
  cases h : n.data.toList with
  | nil => simp [cutB]
  | cons c r =>
    by_cases hc : c = 45
    · subst hc; simp [cutB]
    · simp [cutB, hc]
theorem show_back {n d : ByteArray} (h : rF n d = 0) : showN (rQ n d) = n ∧ showD (rQ n d) = d ∧ Fits (rQ n d) := by
  obtain ⟨_, h2, h3, h4, h5, h6, h7, h8⟩ := rQ_facts h
  have e1 := whl_eq _ _ (whole_whl h4) rfl
  have e2 := whl_eq _ _ (whole_whl h5) rfl
  have hna : (rQ n d).num.natAbs = decv (cutS n).data.toList := by rw [h2, sgn_natAbs]
  refine ⟨?_, ?_, ?_⟩
  · apply ext_bytes
    unfold showN
    rw [strOf_list]
    unfold numL
    rw [hna, ← e1, cutS_list]
    have hj := cut_join n
    by_cases hn : (rQ n d).num < 0
    · rw [if_pos hn]
      rw [decide_eq_true hn] at h8
      rw [← h8] at hj
      simpa using hj.symm
    · rw [if_neg hn]
      rw [decide_eq_false hn] at h8
      rw [← h8] at hj
      simpa using hj.symm
  · apply ext_bytes
    unfold showD
    rw [strOf_list, h3, ← e2]
  · unfold Fits
    rw [hna, h3, ← e1, ← e2, ← size_list, ← size_list]
    exact ⟨h6, h7⟩
end Nm
end Go.Proofs.Ytepgibhgjhjjaaa
