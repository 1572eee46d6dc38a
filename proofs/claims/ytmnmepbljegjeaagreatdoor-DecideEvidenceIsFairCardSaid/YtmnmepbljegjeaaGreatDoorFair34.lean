/- Whole, Plus, Times, Minus, Over, Less of the references: on numbers that are short enough. readMiss of package decide. -/
import Derived.Test.YtmnmepbljegjeaaGreatDoorFair33
import Derived.Test.YtmnmepbljegjeaaGreatDoorFair24
import Derived.Test.YtmnmepbljegjeaaGreatDoorFair03
namespace Go.Proofs.YtmnmepbljegjeaaGreatDoor
open Go.RowKit
namespace Nm
theorem cmpQ_neg {x y : Rat} : cmpQ x y < 0 ↔ x < y := by
  rw [Rat.lt_iff]
  unfold cmpQ cmpZ
  constructor
  · intro h
    by_cases h1 : x.num * (y.den : Int) < y.num * (x.den : Int)
    · exact h1
    · rw [if_neg h1] at h
      split at h <;> omega
  · intro h
    rw [if_pos h]; decide
theorem cmpQ_ge {x y : Rat} : 0 ≤ cmpQ x y ↔ y ≤ x := by
  rw [← Rat.not_lt, ← cmpQ_neg]; omega
theorem cmpQ_m1 {x y : Rat} : cmpQ x y = -1 ↔ x < y := by
  rw [← cmpQ_neg]
  rcases cmpQ_range x y with h | h | h <;> omega
theorem fits_of {k : Nat} {q : Rat} (hk : 1 ≤ k) (hk' : k ≤ 4000) (h1 : q.num.natAbs < 10 ^ k) (h2 : q.den < 10 ^ k) : Fits q := ⟨Nat.le_trans (decS_length h1 hk) hk', Nat.le_trans (decS_length h2 hk) hk'⟩
theorem Ln.fits {a b : Nat} {q : Rat} (h : Ln a b q) (h1 : a < 4000) (h2 : b < 4000) : Fits q :=
  fits_of (k := max a b + 1) (by omega) (by omega) (Nat.lt_of_le_of_lt h.1 (Nat.pow_lt_pow_right (by decide) (by omega))) (Nat.lt_of_le_of_lt h.2 (Nat.pow_lt_pow_right (by decide) (by omega)))
/-- the most digits -/
def DM : Nat := 4000
theorem Fits.ln {q : Rat} (h : Fits q) : Ln DM DM q := ⟨Nat.le_of_lt (lt_of_decS (k := DM) h.1), Nat.le_of_lt (lt_of_decS (k := DM) h.2)⟩
theorem fits_int {n : Int} (h : n.natAbs ≤ 10 ^ 200) : Fits (n : Rat) := (Ln.int h).fits (by decide) (by decide)
theorem i64_ten {n : Int} (h1 : -9223372036854775808 ≤ n) (h2 : n ≤ 9223372036854775807) : n.natAbs ≤ 10 ^ 200 := Nat.le_trans (show n.natAbs ≤ 10 ^ 19 by omega) (ten_le (by decide))
theorem fits_neg {q : Rat} (h : Fits q) : Fits (-q) := by
  unfold Fits at *
  rw [Rat.neg_num, Rat.neg_den, Int.natAbs_neg]; exact h
theorem show_size {q : Rat} (h : Fits q) : (showN q).size ≤ maxLen ∧ (showD q).size ≤ maxLen := by
  unfold showN showD numL
  rw [strOf_size, strOf_size]
  have h1 := h.1
  have h2 := h.2
  unfold maxLen
  constructor
  · split
    · simp only [List.length_cons]; omega
    · omega
  · omega
theorem out_fits {q : Rat} (h : Fits q) : outN q = showN q ∧ outD q = showD q ∧ outF q = 0 := by
  unfold outN outD outF
  rw [if_pos h, if_pos h, if_pos h]; exact ⟨rfl, rfl, rfl⟩
theorem bF_show {p q : Rat} (hp : Fits p) (hq : Fits q) : bF (showN p) (showD p) (showN q) (showD q) = 0 := by
  unfold bF
  rw [(back hp).1, if_neg (by simp), (back hq).1]
theorem op_show {op : Rat → Rat → Rat} {p q : Rat} (hp : Fits p) (hq : Fits q) (hs : Fits (op p q)) : opN op (showN p) (showD p) (showN q) (showD q) = showN (op p q) ∧ opD op (showN p) (showD p) (showN q) (showD q) = showD (op p q) := by
  unfold opN opD
  rw [if_pos (bF_show hp hq), if_pos (bF_show hp hq), (back hp).2, (back hq).2, (out_fits hs).1, (out_fits hs).2.1]; exact ⟨rfl, rfl⟩
theorem ord_show {p q : Rat} (hp : Fits p) (hq : Fits q) : ordV (showN p) (showD p) (showN q) (showD q) = cmpQ p q := by
  unfold ordV
  rw [if_pos (bF_show hp hq), (back hp).2, (back hq).2]
theorem inv_show {q : Rat} (hq : Fits q) (h0 : q ≠ 0) : iN (showN q) (showD q) = showN q⁻¹ ∧ iD (showN q) (showD q) = showD q⁻¹ ∧ Fits q⁻¹ := by
  have hn : q.num ≠ 0 := fun e => h0 (Rat.num_eq_zero.1 e)
  have hi : Fits q⁻¹ := by
    obtain ⟨f1, f2, _, _⟩ := inv_facts hn
    unfold Fits
    rw [f1, f2]; exact ⟨hq.2, hq.1⟩
  unfold iN iD
  rw [(back hq).1, (back hq).2]
  simp only [ne_eq, not_true_eq_false, if_false, hn]
  exact ⟨(out_fits hi).1, (out_fits hi).2.1, hi⟩
theorem quoQ_one (n : Int) : quoQ n 1 = (n : Rat) := by
  unfold quoQ
  rw [dif_neg (by decide)]
  have h : (decide (n < 0) != decide ((1 : Int) < 0)) = decide (n < 0) := by simp
  rw [Rat.normalize_eq_mkRat, h, sgn_self]
  exact Rat.mkRat_one n
theorem quo_one {n : Int} (h : n.natAbs ≤ 10 ^ 200) : quoN n 1 = showN (n : Rat) ∧ quoD n 1 = showD (n : Rat) := by
  unfold quoN quoD
  rw [if_neg (by decide), if_neg (by decide), quoQ_one, (out_fits (fits_int h)).1, (out_fits (fits_int h)).2.1]; exact ⟨rfl, rfl⟩
end Nm
namespace Nt
open _root_.Go.Proofs.YtmnmepbljegjeaaGreatDoor.Nm (showN showD Fits show_size op_show ord_show inv_show quo_one fits_int fits_neg cmpQ cmpQ_neg i64_ten)
/-- a ratio as a value -/
abbrev rtV (q : Rat) : Value := .agg #[.string (showN q), .string (showD q)]
def RtP (w : World) (q : Rat) (e : Ending) (w' : World) : Prop := e = .returned (rtV q) ∧ Below w.heap.size w w'
theorem mWholeQ (n : Int) (h1 : -9223372036854775808 ≤ n) (h2 : n ≤ 9223372036854775807) (w : World) (ht : Tab w) : Calls Tryz.prog 44 #[.int .i64 n] w (RtP w (n : Rat)) := by
  have h := mWhole_at n h1 h2 w ht
  have hb := i64_ten h1 h2
  rw [(quo_one hb).1, (quo_one hb).2] at h
  exact h
theorem mPlusQ (p q : Rat) (hp : Fits p) (hq : Fits q) (hs : Fits (p + q)) (w : World) (ht : Tab w) : Calls Tryz.prog 46 #[rtV p, rtV q] w (RtP w (p + q)) := by
  have h := mPlus_at _ _ _ _ (show_size hp).1 (show_size hp).2 (show_size hq).1 (show_size hq).2 w ht
  rw [(op_show (op := (· + ·)) hp hq hs).1, (op_show (op := (· + ·)) hp hq hs).2] at h
  exact h
theorem mTimesQ (p q : Rat) (hp : Fits p) (hq : Fits q) (hs : Fits (p * q)) (w : World) (ht : Tab w) : Calls Tryz.prog 45 #[rtV p, rtV q] w (RtP w (p * q)) := by
  have h := mTimes_at _ _ _ _ (show_size hp).1 (show_size hp).2 (show_size hq).1 (show_size hq).2 w ht
  rw [(op_show (op := (· * ·)) hp hq hs).1, (op_show (op := (· * ·)) hp hq hs).2] at h
  exact h
theorem mOverQ (p q : Rat) (hp : Fits p) (hq : Fits q) (h0 : q ≠ 0) (hs : Fits (p / q)) (w : World) (ht : Tab w) : Calls Tryz.prog 47 #[rtV p, rtV q] w (RtP w (p / q)) := by
  obtain ⟨e1, e2, hi⟩ := inv_show hq h0
  rw [Rat.div_def] at hs ⊢
  have h := mOver_at (showN p) (showD p) (showN q) (showD q) (show_size hp).1 (show_size hp).2 (show_size hq).1 (show_size hq).2 (by rw [e1]; exact (show_size hi).1) (by rw [e2]; exact (show_size hi).2) w ht
  rw [e1, e2, (op_show (op := (· * ·)) hp hi hs).1, (op_show (op := (· * ·)) hp hi hs).2] at h
  exact h
theorem mMinusQ (p q : Rat) (hp : Fits p) (hq : Fits q) (hs : Fits (p - q)) (w : World) (ht : Tab w) : Calls Tryz.prog 174 #[rtV p, rtV q] w (RtP w (p - q)) := by
  have e : ((-1 : Int) : Rat) * q = -q := by
    have : ((-1 : Int) : Rat) = -1 := by decide
    rw [this]; grind
  refine mMinus_at (showN p) (showD p) (showN q) (showD q) (showN ((-1 : Int) : Rat)) (showD ((-1 : Int) : Rat)) (showN (-q)) (showD (-q)) (showN (p - q)) (showD (p - q)) (show_size hp).1 (show_size hp).2 (Lib.hid fun w' h' => mWholeQ (-1) (by decide) (by decide) w' h') (Lib.hid fun w' h' => ?_) (Lib.hid fun w' h' => ?_) w ht
  · have h := mTimesQ ((-1 : Int) : Rat) q (fits_int (by decide)) hq (by rw [e]; exact fits_neg hq) w' h'
    rw [e] at h
    exact h
  · rw [Rat.sub_eq_add_neg] at hs ⊢
    exact mPlusQ p (-q) hp (fits_neg hq) hs w' h'
theorem mLessQ (p q : Rat) (hp : Fits p) (hq : Fits q) (w : World) (ht : Tab w) : Calls Tryz.prog 49 #[rtV p, rtV q] w (fun e w' => e = .returned (.bool (decide (p < q))) ∧ Below w.heap.size w w') := by
  have h := mLess_at _ _ _ _ (show_size hp).1 (show_size hp).2 (show_size hq).1 (show_size hq).2 w ht
  rw [ord_show hp hq] at h
  have e : decide (cmpQ p q < 0) = decide (p < q) := by
    by_cases hl : p < q
    · rw [decide_eq_true hl, decide_eq_true (cmpQ_neg.2 hl)]
    · rw [decide_eq_false hl, decide_eq_false (fun h' => hl (cmpQ_neg.1 h'))]
  rw [e] at h
  exact h
end Nt
end Go.Proofs.YtmnmepbljegjeaaGreatDoor
namespace Go.Proofs.YtmnmepbljegjeaaGreatDoor
open Go.RowKit
namespace Nm
theorem zero_is (q : Rat) (b : Bool) (hb : decide (q.num = 0) = b) (v : Value) (w : World) (hx : XR w v q) : Calls Tryz.prog 90 #[v] w (BPost w b) := by
  subst hb; exact zero_at q v w hx
theorem xcmp_is (x y : Rat) (z : Int) (hz : cmpQ x y = z) (v u : Value) (w : World) (hx : XR w v x) (hy : XR w u y) (l1 : wlen x.num.natAbs ≤ 100000000) (l2 : wlen x.den ≤ 100000000) (l3 : wlen y.num.natAbs ≤ 100000000) (l4 : wlen y.den ≤ 100000000) : Calls Tryz.prog 92 #[v, u] w (CmpPost w z) := by
  subst hz; exact xcmp_at x y v u w hx hy l1 l2 l3 l4
/-- a miss: between 0 and 1 -/
def okM (q : Rat) : Bool := decide (0 < q.num) && decide (cmpQ q ((1 : Int) : Rat) = -1)
def missF (n d : ByteArray) : Int := if rF n d ≠ 0 then rF n d else if okM (rQ n d) = false then 1 else if longB n d = true then 2 else 0
def MissPost (w : World) (n d : ByteArray) (e : Ending) (w' : World) : Prop := ∃ b a1 n1 c1 a2 n2 c2, e = .returned (.tuple #[.agg #[.bool b, .slice a1 n1 c1, .slice a2 n2 c2], .int .i64 (missF n d)]) ∧ (missF n d = 0 → XR w' (.agg #[.bool b, .slice a1 n1 c1, .slice a2 n2 c2]) (rQ n d)) ∧ Below w.heap.size w w'
set_option maxHeartbeats 8000000 in
theorem readMiss_at (n d : ByteArray) (hn : n.size ≤ maxLen) (hd : d.size ≤ maxLen) (w : World) : Calls Tryz.prog 123 #[.agg #[.string n, .string d]] w (MissPost w n d) := by
  have HW1 := Lib.hid (fun w => whole_at 1 (by decide) (by decide) w)
  go_enter Tryz.func123, Tryz.ntmps123
  go_upto_region 1 with (fail)
  refine wp_box2r fun W hsz hbW hA hC hF => ?_
  have a0 : W.cell? ⟨w.heap.size, 0, none⟩ = some (.string n) := hA.2 0
  have a1 : W.cell? ⟨w.heap.size, 1, none⟩ = some (.string d) := hA.2 1
  clear hsz
  go_wp2_with fail
  refine (checkRatio_at n d hn hd _).mono ?_
  rintro e w1 ⟨rfl, hb1⟩
  have hA1 := hA.ext hb1
  have hC1 := hC.ext hb1
  have hF1 := hF.ext hC hb1
  have hbw1 := ext_trans hbW hb1
  clear hA hC hF hb1 hbW a0 a1
  by_cases hr : rF n d = 0
  · have HR := Lib.hid hr
    have hne : (rF n d != 0) = false := by simp [hr]
    have HMF : Hid (missF n d = if okM (rQ n d) = false then 1 else if longB n d = true then 2 else 0) := by
      have : missF n d = if okM (rQ n d) = false then 1 else if longB n d = true then 2 else 0 := by unfold missF; rw [if_neg (by simp [hr])]
      exact this
    have HS := Lib.hid (miss_small hr)
    have HS1 : Hid (wlen ((1 : Int) : Rat).num.natAbs ≤ 100000000 ∧ wlen ((1 : Int) : Rat).den ≤ 100000000) := ⟨Nat.le_trans (wlen_one (show 1 < B by decide)) (by decide), Nat.le_trans (wlen_one (show 1 < B by decide)) (by decide)⟩
    have a0 : w1.cell? ⟨w.heap.size, 0, none⟩ = some (.string n) := hA1.2 0
    have a1 : w1.cell? ⟨w.heap.size, 1, none⟩ = some (.string d) := hA1.2 1
    clear hr
    go_wp2_with fail
    refine (xratOfP_at n d hn hd HR.out _).mono ?_
    rintro e w2 ⟨v, rfl, hx, hb2⟩
    obtain ⟨q1, k1, q2, k2, rfl, _, _⟩ := hx.open_
    have HB : Hid (XR w2 (.agg #[.bool (decide ((rQ n d).num < 0)), .slice q1 (digs (rQ n d).num.natAbs).length k1, .slice q2 (digs (rQ n d).den).length k2]) (rQ n d)) := hx
    clear hx
    generalize hbv : decide ((rQ n d).num < 0) = b at HB ⊢
    generalize (digs (rQ n d).num.natAbs).length = n1 at HB ⊢
    generalize (digs (rQ n d).den).length = n2 at HB ⊢
    have HBV := Lib.hid hbv
    have hA2 := hA1.ext hb2
    have hC2 := hC1.ext hb2
    have hF2 := hF1.ext hC1 hb2
    have hbw2 := ext_trans hbw1 hb2
    clear hA1 hC1 hF1 hb2 hbw1 a0 hbv
    go_upto_region 5 with (fail)
    refine wp_box1 fun X hszX hbX hX => ?_
    have x0 : X.cell? ⟨w2.heap.size, 0, none⟩ = some (.bool b) := hX.2 0
    have HX := Lib.hid (HB.out.ext hbX)
    have hAX := hA2.ext hbX
    have hCX := hC2.ext hbX
    have hFX := hF2.ext hC2 hbX
    have hbwX := ext_trans hbw2 hbX
    clear hszX hA2 hC2 hF2 hbw2 hbX HB
    by_cases h1 : (rQ n d).num < 0
    · have HM1 : Hid (missF n d = 1) := by
        have h2 := HMF.out
        have h3 : okM (rQ n d) = false := by unfold okM; rw [Bool.and_eq_false_iff]; left; exact decide_eq_false (by omega)
        rw [if_pos h3] at h2; exact h2
      obtain rfl : b = true := by have := HBV.out; rw [← this]; exact decide_eq_true h1
      clear h1 HBV HMF
      go_quiet (fail)
      have hb3 := Lib.hid (below_drewN (Below.refl X.heap.size X) nq)
      have hC3 := hCX.ext hb3.out
      have hF3 := hFX.ext hCX hb3.out
      have hbw3 := ext_trans hbwX hb3.out
      obtain ⟨r0, r1, r2⟩ := boxX hC3
      have hq := three_set (.bool false) (.slice none 0 0) (.slice none 0 0) (hC3.2 0) (hC3.2 1) (hC3.2 2)
      have g0 := hF3 0
      have g1 := hF3 1
      have g2 := hF3 2
      have hbF := Lib.hid (((hbw3.setCell (p := ⟨w.heap.size + 1, 0, none⟩) (Nat.le_succ _) (.bool false)).setCell (p := ⟨w.heap.size + 1, 1, none⟩) (Nat.le_succ _) (.slice none 0 0)).setCell (p := ⟨w.heap.size + 1, 2, none⟩) (Nat.le_succ _) (.slice none 0 0))
      go_wp2
      exact bodyPost_ret (v := .tuple #[.agg #[.bool false, .slice none 0 0, .slice none 0 0], .int .i64 1]) (by simp [results, Tryz.results123, go_sem, hq.1, hq.2.1, hq.2.2]) rfl ⟨_, _, _, _, _, _, _, by rw [HM1.out], (fun h => by rw [HM1.out] at h; first | exact absurd h HNE.out | cases h), hbF.out⟩
    obtain rfl : b = false := by have := HBV.out; rw [← this]; exact decide_eq_false h1
    by_cases h0 : (rQ n d).num = 0
    · have HM1 : Hid (missF n d = 1) := by
        have h2 := HMF.out
        have h3 : okM (rQ n d) = false := by unfold okM; rw [Bool.and_eq_false_iff]; left; exact decide_eq_false (by omega)
        rw [if_pos h3] at h2; exact h2
      have HZ := Lib.hid (show decide ((rQ n d).num = 0) = true from decide_eq_true h0)
      clear h1 h0 HBV HMF
      have x1 : X.cell? ⟨w2.heap.size, 1, none⟩ = some (.slice q1 n1 k1) := hX.2 1
      have x2 : X.cell? ⟨w2.heap.size, 2, none⟩ = some (.slice q2 n2 k2) := hX.2 2
      go_region_with (first | (go_at_call 90; refine (zero_is (rQ n d) true HZ.out _ _ (HX.out.ext (Below.refl X.heap.size X).drew)).mono ?_; rintro e w4 ⟨rfl, hb4⟩; have hc4 := Lib.hid (ext_trans (Below.refl X.heap.size X).drew hb4)))
      all_goals
        have hC4 := hCX.ext hc4.out
        have hF4 := hFX.ext hCX hc4.out
        have hbw4 := ext_trans hbwX hc4.out
        obtain ⟨r0, r1, r2⟩ := boxX hC4
        have hq := three_set (.bool false) (.slice none 0 0) (.slice none 0 0) (hC4.2 0) (hC4.2 1) (hC4.2 2)
        have g0 := hF4 0
        have g1 := hF4 1
        have g2 := hF4 2
        have hbF := Lib.hid (((hbw4.setCell (p := ⟨w.heap.size + 1, 0, none⟩) (Nat.le_succ _) (.bool false)).setCell (p := ⟨w.heap.size + 1, 1, none⟩) (Nat.le_succ _) (.slice none 0 0)).setCell (p := ⟨w.heap.size + 1, 2, none⟩) (Nat.le_succ _) (.slice none 0 0))
        go_wp2
        exact bodyPost_ret (v := .tuple #[.agg #[.bool false, .slice none 0 0, .slice none 0 0], .int .i64 1]) (by simp [results, Tryz.results123, go_sem, hq.1, hq.2.1, hq.2.2]) rfl ⟨_, _, _, _, _, _, _, by rw [HM1.out], (fun h => by rw [HM1.out] at h; first | exact absurd h HNE.out | cases h), hbF.out⟩
    have HZ := Lib.hid (show decide ((rQ n d).num = 0) = false from decide_eq_false h0)
    have HP := Lib.hid (show 0 < (rQ n d).num by omega)
    clear h1 h0 HBV
    rcases cmpQ_range (rQ n d) ((1 : Int) : Rat) with hz | hz | hz
    · have HCQ := Lib.hid hz
      have HM2 : Hid (missF n d = if longB n d = true then 2 else 0) := by
        have h2 := HMF.out
        have h3 : okM (rQ n d) = true := by unfold okM; rw [Bool.and_eq_true]; exact ⟨decide_eq_true HP.out, decide_eq_true HCQ.out⟩
        rw [if_neg (by simp [h3])] at h2; exact h2
      clear hz HMF
      go_region_held3 (S2R X X.heap.size w2.heap.size #[Value.bool false, Value.slice q1 n1 k1, Value.slice q2 n2 k2] w2.heap.size #[Value.bool false, Value.slice q1 n1 k1, Value.slice q2 n2 k2]) (first | exact S2R.start hX hX | exact S2R.ext (by with_reducible assumption) (by with_reducible assumption) (Nat.le_refl _) hX hX | assumption) (first | (go_at_call 90; refine (zero_is (rQ n d) false HZ.out _ _ (HX.out.ext (Below.refl X.heap.size X).drew)).mono ?_; rintro e w4 ⟨rfl, hb4⟩; have hc4 := Lib.hid (ext_trans (Below.refl X.heap.size X).drew hb4)) | (go_at_call 125; refine (HW1.out _).mono ?_; rintro e w5 ⟨vw, rfl, hvw, hb5⟩; have hc5 := Lib.hid (ext_trans hc4.out hb5); obtain ⟨p5, k5, p6, k6, rfl, _, _⟩ := hvw.open_; have HVW := Lib.hid hvw; clear hvw) | (go_at_call 92; refine (xcmp_is (rQ n d) ((1 : Int) : Rat) (-1) HCQ.out _ _ _ (HX.out.ext hc5.out) HVW.out (by have := HS.out; omega) (by have := HS.out; omega) HS1.out.1 HS1.out.2).mono ?_; rintro e w6 ⟨rfl, hb6⟩; have hc6 := Lib.hid (ext_trans hc5.out hb6)))
      have hC6 := hCX.ext hc6.out
      have hF6 := hFX.ext hCX hc6.out
      have hbw6 := ext_trans hbwX hc6.out
      have hA6 := hAX.ext hc6.out
      have hX6 := hX.ext hc6.out
      have a0 : w6.cell? ⟨w.heap.size, 0, none⟩ = some (.string n) := hA6.2 0
      have a1' : w6.cell? ⟨w.heap.size, 1, none⟩ = some (.string d) := hA6.2 1
      have HX6 := Lib.hid (HX.out.ext hc6.out)
      clear hCX hFX hbwX hX hAX
      go_wp2_with fail
      refine (long_at n d hn hd _).mono ?_
      rintro e w7 ⟨rfl, hb7⟩
      have hC7 := hC6.ext hb7
      have hF7 := hF6.ext hC6 hb7
      have hbw7 := ext_trans hbw6 hb7
      have hX7 := hX6.ext hb7
      have HX7 := Lib.hid (HX6.out.ext hb7)
      clear hC6 hF6 hbw6 hX6 hA6 hb7 a0 a1'
      by_cases hl : longB n d = true
      · have HM3 : Hid (missF n d = 2) := by have := HM2.out; rw [if_pos hl] at this; exact this
        rw [hl]
        clear hl HM2
        obtain ⟨r0, r1, r2⟩ := boxX hC7
        have hq := three_set (.bool false) (.slice none 0 0) (.slice none 0 0) (hC7.2 0) (hC7.2 1) (hC7.2 2)
        have g0 := hF7 0
        have g1 := hF7 1
        have g2 := hF7 2
        have hbF := Lib.hid (((hbw7.setCell (p := ⟨w.heap.size + 1, 0, none⟩) (Nat.le_succ _) (.bool false)).setCell (p := ⟨w.heap.size + 1, 1, none⟩) (Nat.le_succ _) (.slice none 0 0)).setCell (p := ⟨w.heap.size + 1, 2, none⟩) (Nat.le_succ _) (.slice none 0 0))
        go_wp2
        exact bodyPost_ret (v := .tuple #[.agg #[.bool false, .slice none 0 0, .slice none 0 0], .int .i64 2]) (by simp [results, Tryz.results123, go_sem, hq.1, hq.2.1, hq.2.2]) rfl ⟨_, _, _, _, _, _, _, by rw [HM3.out], (fun h => by rw [HM3.out] at h; first | exact absurd h HNE.out | cases h), hbF.out⟩
      · have HM3 : Hid (missF n d = 0) := by have := HM2.out; rw [if_neg hl] at this; exact this
        have hl' : longB n d = false := by simpa using hl
        rw [hl']
        clear hl hl' HM2
        obtain ⟨v1, v2, hv, hn1, hn2⟩ := id HX7.out
        have HV := Lib.hid hv
        have e1 : Value.slice q1 n1 k1 = v1 := by have := HV.out; simp at this; exact this.2.1
        have e2 : Value.slice q2 n2 k2 = v2 := by have := HV.out; simp at this; exact this.2.2
        have HE := Lib.hid (show false = decide ((rQ n d).num < 0) by have := HV.out; simp at this ⊢; exact this.1)
        subst e1 e2
        have b0 : w7.cell? ⟨w2.heap.size, 0, none⟩ = some (.bool false) := hX7.2 0
        have b1 : w7.cell? ⟨w2.heap.size, 1, none⟩ = some (.slice q1 n1 k1) := hX7.2 1
        have b2 : w7.cell? ⟨w2.heap.size, 2, none⟩ = some (.slice q2 n2 k2) := hX7.2 2
        have g0 := hF7 0
        have g1 := hF7 1
        have g2 := hF7 2
        obtain ⟨r0, r1, r2⟩ := boxX hC7
        obtain ⟨y1, y2, y3, z0, z1, z2⟩ := res3 false hC7 hn1 hn2 hbw7 (Nat.le_succ _)
        have HK := Lib.hid (And.intro y1 (And.intro y2 y3))
        clear y1 y2 y3 hv hC7 hF7 hbw7 hn1 hn2 hX7
        go_wp2
        exact bodyPost_ret (v := .tuple #[.agg #[.bool false, .slice q1 n1 k1, .slice q2 n2 k2], .int .i64 0]) (by simp [results, Tryz.results123, go_sem, z0, z1, z2]) rfl ⟨_, _, _, _, _, _, _, by rw [HM3.out], (fun _ => ⟨_, _, by rw [HE.out], HK.out.1, HK.out.2.1⟩), HK.out.2.2⟩
    · have HCQ := Lib.hid hz
      have HM1 : Hid (missF n d = 1) := by
        have h2 := HMF.out
        have h3 : okM (rQ n d) = false := by unfold okM; rw [Bool.and_eq_false_iff]; right; rw [HCQ.out]; rfl
        rw [if_pos h3] at h2; exact h2
      clear hz HMF
      go_region_held3 (S2R X X.heap.size w2.heap.size #[Value.bool false, Value.slice q1 n1 k1, Value.slice q2 n2 k2] w2.heap.size #[Value.bool false, Value.slice q1 n1 k1, Value.slice q2 n2 k2]) (first | exact S2R.start hX hX | exact S2R.ext (by with_reducible assumption) (by with_reducible assumption) (Nat.le_refl _) hX hX | assumption) (first | (go_at_call 90; refine (zero_is (rQ n d) false HZ.out _ _ (HX.out.ext (Below.refl X.heap.size X).drew)).mono ?_; rintro e w4 ⟨rfl, hb4⟩; have hc4 := Lib.hid (ext_trans (Below.refl X.heap.size X).drew hb4)) | (go_at_call 125; refine (HW1.out _).mono ?_; rintro e w5 ⟨vw, rfl, hvw, hb5⟩; have hc5 := Lib.hid (ext_trans hc4.out hb5); obtain ⟨p5, k5, p6, k6, rfl, _, _⟩ := hvw.open_; have HVW := Lib.hid hvw; clear hvw) | (go_at_call 92; refine (xcmp_is (rQ n d) ((1 : Int) : Rat) 0 HCQ.out _ _ _ (HX.out.ext hc5.out) HVW.out (by have := HS.out; omega) (by have := HS.out; omega) HS1.out.1 HS1.out.2).mono ?_; rintro e w6 ⟨rfl, hb6⟩; have hc6 := Lib.hid (ext_trans hc5.out hb6)))
      have hC6 := hCX.ext hc6.out
      have hF6 := hFX.ext hCX hc6.out
      have hbw6 := ext_trans hbwX hc6.out
      obtain ⟨r0, r1, r2⟩ := boxX hC6
      have hq := three_set (.bool false) (.slice none 0 0) (.slice none 0 0) (hC6.2 0) (hC6.2 1) (hC6.2 2)
      have g0 := hF6 0
      have g1 := hF6 1
      have g2 := hF6 2
      have hbF := Lib.hid (((hbw6.setCell (p := ⟨w.heap.size + 1, 0, none⟩) (Nat.le_succ _) (.bool false)).setCell (p := ⟨w.heap.size + 1, 1, none⟩) (Nat.le_succ _) (.slice none 0 0)).setCell (p := ⟨w.heap.size + 1, 2, none⟩) (Nat.le_succ _) (.slice none 0 0))
      go_wp2
      exact bodyPost_ret (v := .tuple #[.agg #[.bool false, .slice none 0 0, .slice none 0 0], .int .i64 1]) (by simp [results, Tryz.results123, go_sem, hq.1, hq.2.1, hq.2.2]) rfl ⟨_, _, _, _, _, _, _, by rw [HM1.out], (fun h => by rw [HM1.out] at h; first | exact absurd h HNE.out | cases h), hbF.out⟩
    · have HCQ := Lib.hid hz
      have HM1 : Hid (missF n d = 1) := by
        have h2 := HMF.out
        have h3 : okM (rQ n d) = false := by unfold okM; rw [Bool.and_eq_false_iff]; right; rw [HCQ.out]; rfl
        rw [if_pos h3] at h2; exact h2
      clear hz HMF
      go_region_held3 (S2R X X.heap.size w2.heap.size #[Value.bool false, Value.slice q1 n1 k1, Value.slice q2 n2 k2] w2.heap.size #[Value.bool false, Value.slice q1 n1 k1, Value.slice q2 n2 k2]) (first | exact S2R.start hX hX | exact S2R.ext (by with_reducible assumption) (by with_reducible assumption) (Nat.le_refl _) hX hX | assumption) (first | (go_at_call 90; refine (zero_is (rQ n d) false HZ.out _ _ (HX.out.ext (Below.refl X.heap.size X).drew)).mono ?_; rintro e w4 ⟨rfl, hb4⟩; have hc4 := Lib.hid (ext_trans (Below.refl X.heap.size X).drew hb4)) | (go_at_call 125; refine (HW1.out _).mono ?_; rintro e w5 ⟨vw, rfl, hvw, hb5⟩; have hc5 := Lib.hid (ext_trans hc4.out hb5); obtain ⟨p5, k5, p6, k6, rfl, _, _⟩ := hvw.open_; have HVW := Lib.hid hvw; clear hvw) | (go_at_call 92; refine (xcmp_is (rQ n d) ((1 : Int) : Rat) 1 HCQ.out _ _ _ (HX.out.ext hc5.out) HVW.out (by have := HS.out; omega) (by have := HS.out; omega) HS1.out.1 HS1.out.2).mono ?_; rintro e w6 ⟨rfl, hb6⟩; have hc6 := Lib.hid (ext_trans hc5.out hb6)))
      have hC6 := hCX.ext hc6.out
      have hF6 := hFX.ext hCX hc6.out
      have hbw6 := ext_trans hbwX hc6.out
      obtain ⟨r0, r1, r2⟩ := boxX hC6
      have hq := three_set (.bool false) (.slice none 0 0) (.slice none 0 0) (hC6.2 0) (hC6.2 1) (hC6.2 2)
      have g0 := hF6 0
      have g1 := hF6 1
      have g2 := hF6 2
      have hbF := Lib.hid (((hbw6.setCell (p := ⟨w.heap.size + 1, 0, none⟩) (Nat.le_succ _) (.bool false)).setCell (p := ⟨w.heap.size + 1, 1, none⟩) (Nat.le_succ _) (.slice none 0 0)).setCell (p := ⟨w.heap.size + 1, 2, none⟩) (Nat.le_succ _) (.slice none 0 0))
      go_wp2
      exact bodyPost_ret (v := .tuple #[.agg #[.bool false, .slice none 0 0, .slice none 0 0], .int .i64 1]) (by simp [results, Tryz.results123, go_sem, hq.1, hq.2.1, hq.2.2]) rfl ⟨_, _, _, _, _, _, _, by rw [HM1.out], (fun h => by rw [HM1.out] at h; first | exact absurd h HNE.out | cases h), hbF.out⟩
  · have HNE := Lib.hid hr
    have hne : (rF n d != 0) = true := by simp [hr]
    have HMF : Hid (missF n d = rF n d) := by
      have : missF n d = rF n d := by unfold missF; rw [if_pos hr]
      exact this
    clear hr
    obtain ⟨r0, r1, r2⟩ := boxX hC1
    have hq := three_set (.bool false) (.slice none 0 0) (.slice none 0 0) (hC1.2 0) (hC1.2 1) (hC1.2 2)
    have g0 := hF1 0
    have g1 := hF1 1
    have g2 := hF1 2
    have hbF := Lib.hid (((hbw1.setCell (p := ⟨w.heap.size + 1, 0, none⟩) (Nat.le_succ _) (.bool false)).setCell (p := ⟨w.heap.size + 1, 1, none⟩) (Nat.le_succ _) (.slice none 0 0)).setCell (p := ⟨w.heap.size + 1, 2, none⟩) (Nat.le_succ _) (.slice none 0 0))
    go_wp2
    exact bodyPost_ret (v := .tuple #[.agg #[.bool false, .slice none 0 0, .slice none 0 0], .int .i64 (rF n d)]) (by simp [results, Tryz.results123, go_sem, hq.1, hq.2.1, hq.2.2]) rfl ⟨_, _, _, _, _, _, _, by rw [HMF.out], (fun h => by rw [HMF.out] at h; first | exact absurd h HNE.out | cases h), hbF.out⟩
end Nm
end Go.Proofs.YtmnmepbljegjeaaGreatDoor
