/- Whole, Plus, Times, Minus, Over, Less of the references: on numbers that are short enough. IsShort, IsMiss, CheckTest, enough of the references. Printed by gen_rdec.py. -/
import Derived.Test.YtemenlcigengeaaGreatDoorTq35
import Derived.Test.YtemenlcigengeaaGreatDoorTq21
namespace Go.Proofs.YtemenlcigengeaaGreatDoor
open Go.RowKit
namespace Nm
theorem cmpQ_neg {x y : Rat} : cmpQ x y < 0 ↔ x < y := by
  rw [Rat.lt_iff]
  unfold cmpQ cmpZ
  constructor
  · intro h
    by_cases h1 : x.num * (y.den : Int) < y.num * (x.den : Int)
    · exact h1
    · rw [if_neg h1] at h
      split at h <;> omega
  · intro h
    rw [if_pos h]; decide
theorem cmpQ_m1 {x y : Rat} : cmpQ x y = -1 ↔ x < y := by
  rw [← cmpQ_neg]
  rcases cmpQ_range x y with h | h | h <;> omega
theorem fits_of {k : Nat} {q : Rat} (hk : 1 ≤ k) (hk' : k ≤ 4000) (h1 : q.num.natAbs < 10 ^ k) (h2 : q.den < 10 ^ k) : Fits q := ⟨Nat.le_trans (decS_length h1 hk) hk', Nat.le_trans (decS_length h2 hk) hk'⟩
theorem Ln.fits {a b : Nat} {q : Rat} (h : Ln a b q) (h1 : a < 4000) (h2 : b < 4000) : Fits q :=
  fits_of (k := max a b + 1) (by omega) (by omega) (Nat.lt_of_le_of_lt h.1 (Nat.pow_lt_pow_right (by decide) (by omega))) (Nat.lt_of_le_of_lt h.2 (Nat.pow_lt_pow_right (by decide) (by omega)))
/-- the most digits -/
def DM : Nat := 4000
theorem Fits.ln {q : Rat} (h : Fits q) : Ln DM DM q := ⟨Nat.le_of_lt (lt_of_decS (k := DM) h.1), Nat.le_of_lt (lt_of_decS (k := DM) h.2)⟩
theorem fits_int {n : Int} (h : n.natAbs ≤ 10 ^ 200) : Fits (n : Rat) := (Ln.int h).fits (by decide) (by decide)
theorem i64_ten {n : Int} (h1 : -9223372036854775808 ≤ n) (h2 : n ≤ 9223372036854775807) : n.natAbs ≤ 10 ^ 200 := Nat.le_trans (show n.natAbs ≤ 10 ^ 19 by omega) (ten_le (by decide))
theorem show_size {q : Rat} (h : Fits q) : (showN q).size ≤ maxLen ∧ (showD q).size ≤ maxLen := by
  unfold showN showD numL
  rw [strOf_size, strOf_size]
  have h1 := h.1
  have h2 := h.2
  unfold maxLen
  constructor
  · split
    · simp only [List.length_cons]; omega
    · omega
  · omega
theorem out_fits {q : Rat} (h : Fits q) : outN q = showN q ∧ outD q = showD q ∧ outF q = 0 := by
  unfold outN outD outF
  rw [if_pos h, if_pos h, if_pos h]; exact ⟨rfl, rfl, rfl⟩
theorem bF_show {p q : Rat} (hp : Fits p) (hq : Fits q) : bF (showN p) (showD p) (showN q) (showD q) = 0 := by
  unfold bF
  rw [(back hp).1, if_neg (by simp), (back hq).1]
theorem ord_show {p q : Rat} (hp : Fits p) (hq : Fits q) : ordV (showN p) (showD p) (showN q) (showD q) = cmpQ p q := by
  unfold ordV
  rw [if_pos (bF_show hp hq), (back hp).2, (back hq).2]
theorem quoQ_one (n : Int) : quoQ n 1 = (n : Rat) := by
  unfold quoQ
  rw [dif_neg (by decide)]
  have h : (decide (n < 0) != decide ((1 : Int) < 0)) = decide (n < 0) := by simp
  rw [Rat.normalize_eq_mkRat, h, sgn_self]
  exact Rat.mkRat_one n
theorem quo_one {n : Int} (h : n.natAbs ≤ 10 ^ 200) : quoN n 1 = showN (n : Rat) ∧ quoD n 1 = showD (n : Rat) := by
  unfold quoN quoD
  rw [if_neg (by decide), if_neg (by decide), quoQ_one, (out_fits (fits_int h)).1, (out_fits (fits_int h)).2.1]; exact ⟨rfl, rfl⟩
end Nm
namespace Nt
open _root_.Go.Proofs.YtemenlcigengeaaGreatDoor.Nm (showN showD Fits show_size ord_show quo_one fits_int cmpQ cmpQ_neg i64_ten)
/-- a ratio as a value -/
abbrev rtV (q : Rat) : Value := .agg #[.string (showN q), .string (showD q)]
def RtP (w : World) (q : Rat) (e : Ending) (w' : World) : Prop := e = .returned (rtV q) ∧ Below w.heap.size w w'
theorem mWholeQ (n : Int) (h1 : -9223372036854775808 ≤ n) (h2 : n ≤ 9223372036854775807) (w : World) (ht : Tab w) : Calls Tryz.prog 26 #[.int .i64 n] w (RtP w (n : Rat)) := by
  have h := mWhole_at n h1 h2 w ht
  have hb := i64_ten h1 h2
  rw [(quo_one hb).1, (quo_one hb).2] at h
  exact h
theorem mLessQ (p q : Rat) (hp : Fits p) (hq : Fits q) (w : World) (ht : Tab w) : Calls Tryz.prog 24 #[rtV p, rtV q] w (fun e w' => e = .returned (.bool (decide (p < q))) ∧ Below w.heap.size w w') := by
  have h := mLess_at _ _ _ _ (show_size hp).1 (show_size hp).2 (show_size hq).1 (show_size hq).2 w ht
  rw [ord_show hp hq] at h
  have e : decide (cmpQ p q < 0) = decide (p < q) := by
    by_cases hl : p < q
    · rw [decide_eq_true hl, decide_eq_true (cmpQ_neg.2 hl)]
    · rw [decide_eq_false hl, decide_eq_false (fun h' => hl (cmpQ_neg.1 h'))]
  rw [e] at h
  exact h
end Nt
end Go.Proofs.YtemenlcigengeaaGreatDoor
namespace Go.Proofs.YtemenlcigengeaaGreatDoor
open Go.RowKit
namespace Nt
open _root_.Go.Proofs.YtemenlcigengeaaGreatDoor.Nm (showN showD Fits show_size show_back rF rQ cutS cutS_size longB okM missF cmpQ cmpQ_m1 trimPrefix_at fits_int FPost)
theorem show_parts {n d : ByteArray} (h : rF n d = 0) : ∃ q, Fits q ∧ rQ n d = q ∧ n = showN q ∧ d = showD q := by
  obtain ⟨h1, h2, h3⟩ := show_back h
  exact ⟨rQ n d, h3, rfl, h1.symm, h2.symm⟩
theorem rat_pos {q : Rat} : 0 < q.num ↔ 0 < q := by
  rw [Rat.lt_iff]
  simp
theorem okM_is (q : Rat) : okM q = (decide (0 < q) && decide (q < 1)) := by
  unfold okM
  have e1 : decide (0 < q.num) = decide (0 < q) := by
    by_cases h : 0 < q
    · rw [decide_eq_true h, decide_eq_true (rat_pos.2 h)]
    · rw [decide_eq_false h, decide_eq_false (fun h' => h (rat_pos.1 h'))]
  have e2 : decide (cmpQ q ((1 : Int) : Rat) = -1) = decide (q < 1) := by
    show decide (cmpQ q 1 = -1) = decide (q < 1)
    by_cases h : q < 1
    · rw [decide_eq_true h, decide_eq_true (cmpQ_m1.2 h)]
    · rw [decide_eq_false h, decide_eq_false (fun h' => h (cmpQ_m1.1 h'))]
  rw [e1, e2]
theorem less_is (p q : Rat) (b : Bool) (h : decide (p < q) = b) (hp : Fits p) (hq : Fits q) (w : World) (ht : Tab w) : Calls Tryz.prog 24 #[rtV p, rtV q] w (fun e w' => e = .returned (.bool b) ∧ Below w.heap.size w w') := by subst h; exact mLessQ p q hp hq w ht
theorem fits0 : Fits 0 := fits_int (n := 0) (by decide)
theorem whole0 (w : World) (ht : Tab w) : Calls Tryz.prog 26 #[.int .i64 0] w (RtP w 0) := mWholeQ 0 (by decide) (by decide) w ht
end Nt
end Go.Proofs.YtemenlcigengeaaGreatDoor
