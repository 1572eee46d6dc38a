/- strings.CutPrefix, xratOf of package value: ratios that are read. -/
import Derived.Test.YtemenlcigengeaaGreatDoorTq16
import Derived.Test.YtemenlcigengeaaGreatDoorTq17
namespace Go.Proofs.YtemenlcigengeaaGreatDoor
open Go.RowKit
namespace Nm
/-- a minus at the front -/
def cutB (l : List UInt8) : Bool := match l with | c :: _ => decide (c = 45) | [] => false
def cutL (l : List UInt8) : List UInt8 := if cutB l then l.drop 1 else l
theorem cut_first (s : ByteArray) (h : 1 ≤ s.size) : ((s.extract 0 1).toList == [45]) = cutB s.data.toList := by
  rw [ByteArray.toList_eq]
  have e : (s.extract 0 1).data.toList = s.data.toList.take 1 := by simp
  rw [e]
  have hl : s.data.toList.length = s.size := Array.length_toList
  cases hq : s.data.toList with
  | nil => rw [hq] at hl; simp at hl; omega
  | cons c r => simp only [List.take_succ_cons, List.take_zero, cutB]; rw [Bool.eq_iff_iff]; simp
theorem cut_none (s : ByteArray) (h : s.size < 1) : false = cutB s.data.toList := by
  have hl : s.data.toList.length = s.size := Array.length_toList
  have : s.data.toList = [] := List.eq_nil_of_length_eq_zero (by omega)
  rw [this]; rfl
set_option maxHeartbeats 2000000 in
theorem hasPrefix_at (s : ByteArray) (hs : s.size ≤ maxLen) (w : World) : Calls Tryz.prog 131 #[.string s, .string ⟨#[45]⟩] w fun e w' => e = .returned (.bool (cutB s.data.toList)) ∧ w = w' := by
  unfold maxLen at hs
  by_cases h1 : 1 ≤ s.size
  · have HC := Lib.hid (cut_first s h1)
    go_enter Tryz.func131, Tryz.ntmps131
    go_wp2
    go_ret
    exact ⟨congrArg (fun b => Ending.returned (.bool b)) HC.out, rfl⟩
  · have HC := Lib.hid (cut_none s (by omega))
    go_enter Tryz.func131, Tryz.ntmps131
    go_wp2
    go_ret
    exact ⟨congrArg (fun b => Ending.returned (.bool b)) HC.out, rfl⟩
def cutS (s : ByteArray) : ByteArray := if cutB s.data.toList then s.extract 1 s.size else s
theorem cutS_list (s : ByteArray) : (cutS s).data.toList = cutL s.data.toList := by
  unfold cutS cutL
  by_cases h : cutB s.data.toList = true
  · rw [if_pos h, if_pos h]
    have hl : s.data.toList.length = s.size := Array.length_toList
    simp only [ByteArray.data_extract, Array.toList_extract]
    rw [List.extract_eq_take_drop, List.take_of_length_le (by rw [List.length_drop]; omega)]
  · rw [if_neg h, if_neg h]
theorem cutS_size (s : ByteArray) : (cutS s).size ≤ s.size := by
  unfold cutS; split
  · simp
  · exact Nat.le_refl _
def CutPost (w : World) (s : ByteArray) (e : Ending) (w' : World) : Prop := e = .returned (.tuple #[.string (cutS s), .bool (cutB s.data.toList)]) ∧ w = w'
set_option maxHeartbeats 2000000 in
theorem liteCut_at (s : ByteArray) (hs : s.size ≤ maxLen) (w : World) : Calls Tryz.prog 145 #[.string s, .string ⟨#[45]⟩] w (CutPost w s) := by
  have hs' := hs
  unfold maxLen at hs'
  by_cases h : cutB s.data.toList = true
  · have h1 : 1 ≤ s.size := by
      rcases Nat.lt_or_ge s.size 1 with h2 | h2
      · have := cut_none s h2; rw [h] at this; cases this
      · exact h2
    have HE : Hid (s.extract 1 s.size = cutS s) := by
      have : s.extract 1 s.size = cutS s := by unfold cutS; rw [if_pos h]
      exact this
    have HH := Lib.hid h
    go_enter Tryz.func145, Tryz.ntmps145
    go_wp2_with fail
    refine (hasPrefix_at s hs w).mono ?_
    rw [h]
    rintro e w' ⟨rfl, rfl⟩
    clear h
    go_wp2
    go_ret2
    refine ⟨?_, rfl⟩
    rw [HH.out, ← HE.out]; rfl
  · have hf : cutB s.data.toList = false := by simpa using h
    have HE : Hid (s = cutS s) := by
      have : s = cutS s := by unfold cutS; rw [if_neg h]
      exact this
    have HH := Lib.hid hf
    go_enter Tryz.func145, Tryz.ntmps145
    go_wp2_with fail
    refine (hasPrefix_at s hs w).mono ?_
    rw [hf]
    rintro e w' ⟨rfl, rfl⟩
    clear h hf
    go_wp2
    go_ret2
    refine ⟨?_, rfl⟩
    rw [HH.out, ← HE.out]; rfl
theorem cutPrefix_at (s : ByteArray) (hs : s.size ≤ maxLen) (w : World) : Calls Tryz.prog 121 #[.string s, .string ⟨#[45]⟩] w (CutPost w s) := by
  go_enter Tryz.func121, Tryz.ntmps121
  go_wp2_with fail
  refine (liteCut_at s hs w).mono ?_
  rintro e w' ⟨rfl, rfl⟩
  go_wp2
  go_ret2
  exact ⟨rfl, rfl⟩
/-- the fault of a ratio -/
def badR (m d : ByteArray) (b : Bool) : Bool := !wholeB m.data.toList || (b && (m.toList == [48])) || !wholeB d.data.toList || (d.toList == [48])
def largeR (m d : ByteArray) : Prop := 4000 < m.size ∨ 4000 < d.size
instance (m d : ByteArray) : Decidable (largeR m d) := by unfold largeR; exact inferInstance
def rF (n d : ByteArray) : Int := if badR (cutS n) d (cutB n.data.toList) = true then 3 else if largeR (cutS n) d then 2 else if Nat.gcd (decv (cutS n).data.toList) (decv d.data.toList) ≠ 1 then 3 else 0
def rQ (n d : ByteArray) : Rat := mkRat (sgn (cutB n.data.toList) (decv (cutS n).data.toList)) (decv d.data.toList)
def OfPost (w : World) (n d : ByteArray) (e : Ending) (w' : World) : Prop := ∃ v, e = .returned (.tuple #[v, .int .i64 (rF n d)]) ∧ (rF n d = 0 → XR w' v (rQ n d)) ∧ (rF n d ≠ 0 → v = .agg zeroX) ∧ Below w.heap.size w w'
theorem digs_of {l : List UInt8} (h : digsB l = true) : Digs l := by
  intro c hc
  have := List.all_eq_true.1 h c hc
  unfold digC digN at this
  have := of_decide_eq_true this
  omega
theorem whole_whl {l : List UInt8} (h : wholeB l = true) : Whl l := by
  unfold wholeB at h
  simp only [Bool.and_eq_true, Bool.not_eq_true'] at h
  obtain ⟨⟨h1, h2⟩, h3⟩ := h
  refine ⟨digs_of h3, ?_⟩
  cases l with
  | nil => simp at h1
  | cons c r =>
    refine ⟨c, r, rfl, fun hr hc => ?_⟩
    have hlen : 1 < (c :: r).length := by have := List.length_pos_iff.2 hr; simp; omega
    simp only [zeroAt, hlen, decide_true, Bool.true_and] at h2
    have := of_decide_eq_false h2
    omega
theorem whl_whole {l : List UInt8} (h : Whl l) : wholeB l = true := by
  obtain ⟨hd, c, r, rfl, hc⟩ := h
  unfold wholeB
  have h3 : digsB (c :: r) = true := List.all_eq_true.2 (fun x hx => by unfold digC digN; have := hd x hx; exact decide_eq_true (by omega))
  rw [h3]
  simp only [List.isEmpty_cons, Bool.not_false, Bool.true_and, Bool.and_true, Bool.not_eq_true']
  by_cases hr : r = []
  · subst hr; simp
  · have := hc hr
    simp only [zeroAt]
    rw [decide_eq_false (p := ((c.toNat : Int) = 48)) (by omega)]; simp
theorem one_of_zero {l : List UInt8} (h : Whl l) (h0 : decv l = 0) : l = [48] := by
  rw [whl_eq 0 l h h0, decS_small (by decide)]; rfl
theorem rQ_facts {n d : ByteArray} (h : rF n d = 0) : decv d.data.toList ≠ 0 ∧ (rQ n d).num = sgn (cutB n.data.toList) (decv (cutS n).data.toList) ∧ (rQ n d).den = decv d.data.toList ∧ wholeB (cutS n).data.toList = true ∧ wholeB d.data.toList = true ∧ (cutS n).size ≤ 4000 ∧ d.size ≤ 4000 ∧ decide ((rQ n d).num < 0) = cutB n.data.toList := by
  unfold rF at h
  by_cases hb : badR (cutS n) d (cutB n.data.toList) = true
  · rw [if_pos hb] at h; cases h
  · rw [if_neg hb] at h
    by_cases hl : largeR (cutS n) d
    · rw [if_pos hl] at h; cases h
    · rw [if_neg hl] at h
      by_cases hg : Nat.gcd (decv (cutS n).data.toList) (decv d.data.toList) ≠ 1
      · rw [if_pos hg] at h; cases h
      · have hb' : badR (cutS n) d (cutB n.data.toList) = false := by simpa using hb
        unfold badR at hb'
        simp only [Bool.or_eq_false_iff, Bool.not_eq_false'] at hb'
        obtain ⟨⟨⟨h1, h2⟩, h3⟩, h4⟩ := hb'
        have hg1 : Nat.gcd (decv (cutS n).data.toList) (decv d.data.toList) = 1 := by omega
        have hd0 : decv d.data.toList ≠ 0 := by
          intro h0
          have := one_of_zero (whole_whl h3) h0
          rw [ByteArray.toList_eq, this] at h4
          simp at h4
        have hq : rQ n d = Rat.normalize (sgn (cutB n.data.toList) (decv (cutS n).data.toList)) (decv d.data.toList) hd0 := by
          unfold rQ mkRat; rw [dif_neg hd0]
        have hn := norm_num (cutB n.data.toList) (decv (cutS n).data.toList) (decv d.data.toList) hd0
        have hn2 := norm_den (cutB n.data.toList) (decv (cutS n).data.toList) (decv d.data.toList) hd0
        rw [hg1, Nat.div_one] at hn hn2
        unfold largeR at hl
        refine ⟨hd0, by rw [hq]; exact hn, by rw [hq]; exact hn2, h1, h3, by omega, by omega, ?_⟩
        rw [hq, hn]
        cases hcb : cutB n.data.toList
        · simp [sgn]
        · rw [hcb] at h2
          have h5 : decv (cutS n).data.toList ≠ 0 := by
            intro h0
            have := one_of_zero (whole_whl h1) h0
            rw [ByteArray.toList_eq, this] at h2
            simp at h2
          simp [sgn]; omega
end Nm
end Go.Proofs.YtemenlcigengeaaGreatDoor
