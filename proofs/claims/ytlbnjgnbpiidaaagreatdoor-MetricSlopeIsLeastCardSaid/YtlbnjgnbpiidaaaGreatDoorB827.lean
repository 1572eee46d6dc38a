/- What is written is read back; the plain law of RatiosAddUp. Plain: how long the numbers of a calculation can be. No program stands in it. Whole, Plus, Times, Minus, Over, Less of the references: on numbers that are short enough. IsShort, IsMiss, CheckTest, enough of the references. Printed by gen_rdec.py. Plain: the evidence as a number: it starts at 1, is never below 0, and a pair leaves it as it is on average. Several evidences: what is right, in plain words. Decimal of package value. Printed by gen_dec.py. readAll of package decide. Printed by gen_sevb.py. side of the reference: the capitals of bets on up. Printed by gen_side.py. Together of both. Printed by gen_sevt.py. -/
import Derived.Test.YtlbnjgnbpiidaaaGreatDoorB809
import Derived.Test.YtlbnjgnbpiidaaaGreatDoorB801
import Derived.Test.YtlbnjgnbpiidaaaGreatDoorB807
import Derived.Test.YtlbnjgnbpiidaaaGreatDoorB826
import Derived.Test.YtlbnjgnbpiidaaaGreatDoorB813
import Derived.Test.YtlbnjgnbpiidaaaGreatDoorB811
import Derived.Deep.Cut
import Derived.Test.YtlbnjgnbpiidaaaGreatDoorB822
import Derived.Test.YtlbnjgnbpiidaaaGreatDoorB800
import Derived.Test.YtlbnjgnbpiidaaaGreatDoorB812
import Derived.Test.YtlbnjgnbpiidaaaGreatDoorB820
namespace Go.Proofs.YtlbnjgnbpiidaaaGreatDoor
namespace Nm
theorem decS_first (x : Nat) : cutB (decS x) = false := by
  obtain ⟨hd, c, r, h, _⟩ := decS_whl x
  rw [h]
  have := hd c (by rw [h]; simp)
  simp only [cutB]
  apply decide_eq_false
  intro hc
  subst hc
  have h2 : (45 : UInt8).toNat = 45 := rfl
  omega
theorem cut_show (q : Rat) : cutB (showN q).data.toList = decide (q.num < 0) ∧ (cutS (showN q)).data.toList = decS q.num.natAbs := by
  rw [cutS_list]
  unfold showN
  rw [strOf_list]
  unfold numL cutL
  by_cases h : q.num < 0
  · rw [if_pos h]; simp [cutB, h]
  · rw [if_neg h, decS_first]; simp [h]
theorem decS_ne_zero {x : Nat} (h : x ≠ 0) : (decS x == [48]) = false := by
  rw [beq_eq_false_iff_ne]
  intro e
  have := decv_decS x
  rw [e] at this
  exact h this.symm
theorem size_list (s : ByteArray) : s.size = s.data.toList.length := Array.length_toList.symm
theorem back {q : Rat} (h : Fits q) : rF (showN q) (showD q) = 0 ∧ rQ (showN q) (showD q) = q := by
  obtain ⟨h1, h2⟩ := cut_show q
  have hD : (showD q).data.toList = decS q.den := rfl
  have hv1 : decv (cutS (showN q)).data.toList = q.num.natAbs := by rw [h2, decv_decS]
  have hv2 : decv (showD q).data.toList = q.den := by rw [hD, decv_decS]
  constructor
  · unfold rF
    have hb : badR (cutS (showN q)) (showD q) (cutB (showN q).data.toList) = false := by
      unfold badR
      rw [h2, hD, h1, ByteArray.toList_eq, ByteArray.toList_eq, h2, hD, whl_whole (decS_whl _), whl_whole (decS_whl _), decS_ne_zero q.den_nz]
      by_cases hn : q.num < 0
      · rw [decS_ne_zero (by omega)]; simp
      · simp [hn]
    have hl : ¬ largeR (cutS (showN q)) (showD q) := by
      unfold largeR
      rw [size_list, size_list, h2, hD]
      have := h.1
      have := h.2
      omega
    have hg : ¬ (Nat.gcd (decv (cutS (showN q)).data.toList) (decv (showD q).data.toList) ≠ 1) := by
      rw [hv1, hv2]; exact not_not_intro q.reduced
    rw [if_neg (by rw [hb]; simp), if_neg hl, if_neg hg]
  · unfold rQ
    rw [hv1, hv2, h1, sgn_self]
    unfold mkRat
    rw [dif_neg q.den_nz]
    exact Rat.normalize_self q
theorem ext_bytes {s t : ByteArray} (h : s.data.toList = t.data.toList) : s = t := by
  apply ByteArray.ext
  exact Array.toList_inj.1 h
theorem cut_join (n : ByteArray) : n.data.toList = if cutB n.data.toList then 45 :: cutL n.data.toList else cutL n.data.toList := by
  unfold cutL
  cases h : n.data.toList with
  | nil => simp [cutB]
  | cons c r =>
    by_cases hc : c = 45
    · subst hc; simp [cutB]
    · simp [cutB, hc]
theorem show_back {n d : ByteArray} (h : rF n d = 0) : showN (rQ n d) = n ∧ showD (rQ n d) = d ∧ Fits (rQ n d) := by
  obtain ⟨_, h2, h3, h4, h5, h6, h7, h8⟩ := rQ_facts h
  have e1 := whl_eq _ _ (whole_whl h4) rfl
  have e2 := whl_eq _ _ (whole_whl h5) rfl
  have hna : (rQ n d).num.natAbs = decv (cutS n).data.toList := by rw [h2, sgn_natAbs]
  refine ⟨?_, ?_, ?_⟩
  · apply ext_bytes
    unfold showN
    rw [strOf_list]
    unfold numL
    rw [hna, ← e1, cutS_list]
    have hj := cut_join n
    by_cases hn : (rQ n d).num < 0
    · rw [if_pos hn]
      rw [decide_eq_true hn] at h8
      rw [← h8] at hj
      simpa using hj.symm
    · rw [if_neg hn]
      rw [decide_eq_false hn] at h8
      rw [← h8] at hj
      simpa using hj.symm
  · apply ext_bytes
    unfold showD
    rw [strOf_list, h3, ← e2]
  · unfold Fits
    rw [hna, h3, ← e1, ← e2, ← size_list, ← size_list]
    exact ⟨h6, h7⟩
end Nm
end Go.Proofs.YtlbnjgnbpiidaaaGreatDoor
namespace Go.Proofs.YtlbnjgnbpiidaaaGreatDoor
namespace Nm
/-- q is m / D, m not above M, of any sign -/
def FZ (D M : Nat) (q : Rat) : Prop := D ≠ 0 ∧ ∃ m : Int, m.natAbs ≤ M ∧ q = mkRat m D
/-- bounds of the numerator and of the denominator -/
def Bd (A B : Nat) (q : Rat) : Prop := q.num.natAbs ≤ A ∧ q.den ≤ B
theorem FZ.zero {D : Nat} (hD : D ≠ 0) (M : Nat) : FZ D M 0 := ⟨hD, 0, Nat.zero_le _, by simp⟩
theorem FZ.mono {D M M' : Nat} {q : Rat} (h : FZ D M q) (hM : M ≤ M') : FZ D M' q := by
  obtain ⟨hD, m, hm, rfl⟩ := h; exact ⟨hD, m, Nat.le_trans hm hM, rfl⟩
theorem FZ.scale {D M : Nat} {q : Rat} (h : FZ D M q) {c : Nat} (hc : c ≠ 0) : FZ (D * c) (M * c) q := by
  obtain ⟨hD, m, hm, rfl⟩ := h
  refine ⟨Nat.mul_ne_zero hD hc, m * (c : Int), ?_, ?_⟩
  · rw [Int.natAbs_mul, Int.natAbs_natCast]; exact Nat.mul_le_mul_right _ hm
  · rw [Rat.mkRat_mul_right hc]
theorem FZ.add {D M N : Nat} {p q : Rat} (h : FZ D M p) (k : FZ D N q) : FZ D (M + N) (p + q) := by
  obtain ⟨hD, m, hm, rfl⟩ := h
  obtain ⟨_, n, hn, rfl⟩ := k
  refine ⟨hD, m + n, by omega, ?_⟩
  rw [Rat.mkRat_add_mkRat _ _ hD hD, ← Int.add_mul, Rat.mkRat_mul_right hD]
theorem FZ.neg {D M : Nat} {q : Rat} (h : FZ D M q) : FZ D M (-q) := by
  obtain ⟨hD, m, hm, rfl⟩ := h
  exact ⟨hD, -m, by omega, by rw [Rat.neg_mkRat]⟩
theorem FZ.sub {D M N : Nat} {p q : Rat} (h : FZ D M p) (k : FZ D N q) : FZ D (M + N) (p - q) := by
  rw [Rat.sub_eq_add_neg]; exact h.add k.neg
theorem FZ.mul {D E M N : Nat} {p q : Rat} (h : FZ D M p) (k : FZ E N q) : FZ (D * E) (M * N) (p * q) := by
  obtain ⟨hD, m, hm, rfl⟩ := h
  obtain ⟨hE, n, hn, rfl⟩ := k
  refine ⟨Nat.mul_ne_zero hD hE, m * n, ?_, ?_⟩
  · rw [Int.natAbs_mul]; exact Nat.mul_le_mul hm hn
  · rw [Rat.mkRat_mul_mkRat]
theorem FZ.int {z : Int} {M : Nat} (h : z.natAbs ≤ M) : FZ 1 M (z : Rat) := ⟨by omega, z, h, by rw [Rat.mkRat_one]⟩
theorem FZ.nat {n M : Nat} (h : n ≤ M) : FZ 1 M ((n : Nat) : Rat) := ⟨by omega, (n : Int), h, by rw [Rat.mkRat_one, Rat.intCast_natCast]⟩
theorem FZ.bd {D M : Nat} {q : Rat} (h : FZ D M q) : Bd M D q := by
  obtain ⟨hD, m, hm, rfl⟩ := h
  have e : mkRat m D = Rat.normalize (sgn (decide (m < 0)) m.natAbs) D hD := by rw [Rat.normalize_eq_mkRat, sgn_self]
  unfold Bd
  rw [e, norm_abs, norm_den]
  exact ⟨Nat.le_trans (Nat.div_le_self _ _) hm, Nat.div_le_self _ _⟩
theorem Bd.mono {A B A' B' : Nat} {q : Rat} (h : Bd A B q) (h1 : A ≤ A') (h2 : B ≤ B') : Bd A' B' q := ⟨Nat.le_trans h.1 h1, Nat.le_trans h.2 h2⟩
theorem Bd.self (q : Rat) : FZ q.den q.num.natAbs q := ⟨q.den_nz, q.num, Nat.le_refl _, (Rat.mkRat_self q).symm⟩
theorem Bd.int {z : Int} {M : Nat} (h : z.natAbs ≤ M) : Bd M 1 (z : Rat) := (FZ.int h).bd
theorem Bd.nat {n M : Nat} (h : n ≤ M) : Bd M 1 ((n : Nat) : Rat) := (FZ.nat h).bd
theorem Bd.mul {A B A' B' : Nat} {p q : Rat} (h : Bd A B p) (k : Bd A' B' q) : Bd (A * A') (B * B') (p * q) :=
  ((Bd.self p).mul (Bd.self q)).bd.mono (Nat.mul_le_mul h.1 k.1) (Nat.mul_le_mul h.2 k.2)
theorem Bd.neg {A B : Nat} {q : Rat} (h : Bd A B q) : Bd A B (-q) := (Bd.self q).neg.bd.mono h.1 h.2
theorem Bd.add {A B A' B' : Nat} {p q : Rat} (h : Bd A B p) (k : Bd A' B' q) : Bd (A * B' + A' * B) (B * B') (p + q) := by
  have h1 := (Bd.self p).scale (c := q.den) q.den_nz
  have h2 := (Bd.self q).scale (c := p.den) p.den_nz
  rw [Nat.mul_comm q.den p.den] at h2
  exact (h1.add h2).bd.mono (Nat.add_le_add (Nat.mul_le_mul h.1 k.2) (Nat.mul_le_mul k.1 h.2)) (Nat.mul_le_mul h.2 k.2)
theorem Bd.sub {A B A' B' : Nat} {p q : Rat} (h : Bd A B p) (k : Bd A' B' q) : Bd (A * B' + A' * B) (B * B') (p - q) := by
  rw [Rat.sub_eq_add_neg]; exact h.add k.neg
theorem Bd.inv {A B : Nat} {q : Rat} (h : Bd A B q) (h0 : q ≠ 0) : Bd B A q⁻¹ := by
  have hn : q.num ≠ 0 := fun e => h0 (Rat.num_eq_zero.1 e)
  obtain ⟨f1, f2, _, _⟩ := inv_facts hn
  exact ⟨by rw [f1]; exact h.2, by rw [f2]; exact h.1⟩
/-- lengths: at most so many digits -/
def Ln (a b : Nat) (q : Rat) : Prop := q.num.natAbs ≤ 10 ^ a ∧ q.den ≤ 10 ^ b
theorem ten_le {a b : Nat} (h : a ≤ b) : 10 ^ a ≤ 10 ^ b := Nat.pow_le_pow_right (by decide) h
theorem ten_two {a b : Nat} : 10 ^ a + 10 ^ b ≤ 10 ^ (max a b + 1) := by
  have h1 : 10 ^ a ≤ 10 ^ max a b := ten_le (Nat.le_max_left _ _)
  have h2 : 10 ^ b ≤ 10 ^ max a b := ten_le (Nat.le_max_right _ _)
  rw [Nat.pow_succ]; omega
theorem Bd.ln {A B a b : Nat} {q : Rat} (h : Bd A B q) (h1 : A ≤ 10 ^ a) (h2 : B ≤ 10 ^ b) : Ln a b q := ⟨Nat.le_trans h.1 h1, Nat.le_trans h.2 h2⟩
theorem FZ.ln {D M a b : Nat} {q : Rat} (h : FZ D M q) (h1 : M ≤ 10 ^ a) (h2 : D ≤ 10 ^ b) : Ln a b q := h.bd.ln h1 h2
theorem Ln.mono {a b a' b' : Nat} {q : Rat} (h : Ln a b q) (h1 : a ≤ a') (h2 : b ≤ b') : Ln a' b' q := ⟨Nat.le_trans h.1 (ten_le h1), Nat.le_trans h.2 (ten_le h2)⟩
theorem Ln.mul {a b a' b' : Nat} {p q : Rat} (h : Ln a b p) (k : Ln a' b' q) : Ln (a + a') (b + b') (p * q) :=
  (Bd.mul h k).ln (by rw [Nat.pow_add]; exact Nat.le_refl _) (by rw [Nat.pow_add]; exact Nat.le_refl _)
theorem Ln.neg {a b : Nat} {q : Rat} (h : Ln a b q) : Ln a b (-q) := Bd.neg h
theorem Ln.add {a b a' b' : Nat} {p q : Rat} (h : Ln a b p) (k : Ln a' b' q) : Ln (max (a + b') (a' + b) + 1) (b + b') (p + q) :=
  (Bd.add h k).ln (by rw [← Nat.pow_add, ← Nat.pow_add]; exact ten_two) (by rw [Nat.pow_add]; exact Nat.le_refl _)
theorem Ln.sub {a b a' b' : Nat} {p q : Rat} (h : Ln a b p) (k : Ln a' b' q) : Ln (max (a + b') (a' + b) + 1) (b + b') (p - q) := by
  rw [Rat.sub_eq_add_neg]; exact h.add k.neg
theorem Ln.inv {a b : Nat} {q : Rat} (h : Ln a b q) (h0 : q ≠ 0) : Ln b a q⁻¹ := Bd.inv h h0
theorem Ln.div {a b a' b' : Nat} {p q : Rat} (h : Ln a b p) (k : Ln a' b' q) (h0 : q ≠ 0) : Ln (a + b') (b + a') (p / q) := by
  rw [Rat.div_def]; exact h.mul (k.inv h0)
theorem Ln.int {z : Int} {a : Nat} (h : z.natAbs ≤ 10 ^ a) : Ln a 0 (z : Rat) := (Bd.int h).ln (Nat.le_refl _) (Nat.le_refl _)
theorem Ln.nat {n a : Nat} (h : n ≤ 10 ^ a) : Ln a 0 ((n : Nat) : Rat) := (Bd.nat h).ln (Nat.le_refl _) (Nat.le_refl _)
end Nm
end Go.Proofs.YtlbnjgnbpiidaaaGreatDoor
namespace Go.Proofs.YtlbnjgnbpiidaaaGreatDoor
open Go.RowKit
namespace Nm
theorem cmpQ_neg {x y : Rat} : cmpQ x y < 0 ↔ x < y := by
  rw [Rat.lt_iff]
  unfold cmpQ cmpZ
  constructor
  · intro h
    by_cases h1 : x.num * (y.den : Int) < y.num * (x.den : Int)
    · exact h1
    · rw [if_neg h1] at h
      split at h <;> omega
  · intro h
    rw [if_pos h]; decide
theorem fits_of {k : Nat} {q : Rat} (hk : 1 ≤ k) (hk' : k ≤ 4000) (h1 : q.num.natAbs < 10 ^ k) (h2 : q.den < 10 ^ k) : Fits q := ⟨Nat.le_trans (decS_length h1 hk) hk', Nat.le_trans (decS_length h2 hk) hk'⟩
theorem Ln.fits {a b : Nat} {q : Rat} (h : Ln a b q) (h1 : a < 4000) (h2 : b < 4000) : Fits q :=
  fits_of (k := max a b + 1) (by omega) (by omega) (Nat.lt_of_le_of_lt h.1 (Nat.pow_lt_pow_right (by decide) (by omega))) (Nat.lt_of_le_of_lt h.2 (Nat.pow_lt_pow_right (by decide) (by omega)))
/-- the most digits -/
def DM : Nat := 4000
theorem Fits.ln {q : Rat} (h : Fits q) : Ln DM DM q := ⟨Nat.le_of_lt (lt_of_decS (k := DM) h.1), Nat.le_of_lt (lt_of_decS (k := DM) h.2)⟩
theorem fits_int {n : Int} (h : n.natAbs ≤ 10 ^ 200) : Fits (n : Rat) := (Ln.int h).fits (by decide) (by decide)
theorem i64_ten {n : Int} (h1 : -9223372036854775808 ≤ n) (h2 : n ≤ 9223372036854775807) : n.natAbs ≤ 10 ^ 200 := Nat.le_trans (show n.natAbs ≤ 10 ^ 19 by omega) (ten_le (by decide))
theorem fits_neg {q : Rat} (h : Fits q) : Fits (-q) := by
  unfold Fits at *
  rw [Rat.neg_num, Rat.neg_den, Int.natAbs_neg]; exact h
theorem show_size {q : Rat} (h : Fits q) : (showN q).size ≤ maxLen ∧ (showD q).size ≤ maxLen := by
  unfold showN showD numL
  rw [strOf_size, strOf_size]
  have h1 := h.1
  have h2 := h.2
  unfold maxLen
  constructor
  · split
    · simp only [List.length_cons]; omega
    · omega
  · omega
theorem out_fits {q : Rat} (h : Fits q) : outN q = showN q ∧ outD q = showD q ∧ outF q = 0 := by
  unfold outN outD outF
  rw [if_pos h, if_pos h, if_pos h]; exact ⟨rfl, rfl, rfl⟩
theorem bF_show {p q : Rat} (hp : Fits p) (hq : Fits q) : bF (showN p) (showD p) (showN q) (showD q) = 0 := by
  unfold bF
  rw [(back hp).1, if_neg (by simp), (back hq).1]
theorem op_show {op : Rat → Rat → Rat} {p q : Rat} (hp : Fits p) (hq : Fits q) (hs : Fits (op p q)) : opN op (showN p) (showD p) (showN q) (showD q) = showN (op p q) ∧ opD op (showN p) (showD p) (showN q) (showD q) = showD (op p q) := by
  unfold opN opD
  rw [if_pos (bF_show hp hq), if_pos (bF_show hp hq), (back hp).2, (back hq).2, (out_fits hs).1, (out_fits hs).2.1]; exact ⟨rfl, rfl⟩
theorem ord_show {p q : Rat} (hp : Fits p) (hq : Fits q) : ordV (showN p) (showD p) (showN q) (showD q) = cmpQ p q := by
  unfold ordV
  rw [if_pos (bF_show hp hq), (back hp).2, (back hq).2]
theorem inv_show {q : Rat} (hq : Fits q) (h0 : q ≠ 0) : iN (showN q) (showD q) = showN q⁻¹ ∧ iD (showN q) (showD q) = showD q⁻¹ ∧ Fits q⁻¹ := by
  have hn : q.num ≠ 0 := fun e => h0 (Rat.num_eq_zero.1 e)
  have hi : Fits q⁻¹ := by
    obtain ⟨f1, f2, _, _⟩ := inv_facts hn
    unfold Fits
    rw [f1, f2]; exact ⟨hq.2, hq.1⟩
  unfold iN iD
  rw [(back hq).1, (back hq).2]
  simp only [ne_eq, not_true_eq_false, if_false, hn]
  exact ⟨(out_fits hi).1, (out_fits hi).2.1, hi⟩
theorem quoQ_one (n : Int) : quoQ n 1 = (n : Rat) := by
  unfold quoQ
  rw [dif_neg (by decide)]
  have h : (decide (n < 0) != decide ((1 : Int) < 0)) = decide (n < 0) := by simp
  rw [Rat.normalize_eq_mkRat, h, sgn_self]
  exact Rat.mkRat_one n
theorem quo_one {n : Int} (h : n.natAbs ≤ 10 ^ 200) : quoN n 1 = showN (n : Rat) ∧ quoD n 1 = showD (n : Rat) := by
  unfold quoN quoD
  rw [if_neg (by decide), if_neg (by decide), quoQ_one, (out_fits (fits_int h)).1, (out_fits (fits_int h)).2.1]; exact ⟨rfl, rfl⟩
end Nm
namespace Nt
open _root_.Go.Proofs.YtlbnjgnbpiidaaaGreatDoor.Nm (showN showD Fits show_size op_show ord_show inv_show quo_one fits_int fits_neg cmpQ cmpQ_neg i64_ten)
/-- a ratio as a value -/
abbrev rtV (q : Rat) : Value := .agg #[.string (showN q), .string (showD q)]
def RtP (w : World) (q : Rat) (e : Ending) (w' : World) : Prop := e = .returned (rtV q) ∧ Below w.heap.size w w'
theorem mWholeQ (n : Int) (h1 : -9223372036854775808 ≤ n) (h2 : n ≤ 9223372036854775807) (w : World) (ht : Tab w) : Calls Tryz.prog 14 #[.int .i64 n] w (RtP w (n : Rat)) := by
  have h := mWhole_at n h1 h2 w ht
  have hb := i64_ten h1 h2
  rw [(quo_one hb).1, (quo_one hb).2] at h
  exact h
theorem mPlusQ (p q : Rat) (hp : Fits p) (hq : Fits q) (hs : Fits (p + q)) (w : World) (ht : Tab w) : Calls Tryz.prog 17 #[rtV p, rtV q] w (RtP w (p + q)) := by
  have h := mPlus_at _ _ _ _ (show_size hp).1 (show_size hp).2 (show_size hq).1 (show_size hq).2 w ht
  rw [(op_show (op := (· + ·)) hp hq hs).1, (op_show (op := (· + ·)) hp hq hs).2] at h
  exact h
theorem mTimesQ (p q : Rat) (hp : Fits p) (hq : Fits q) (hs : Fits (p * q)) (w : World) (ht : Tab w) : Calls Tryz.prog 19 #[rtV p, rtV q] w (RtP w (p * q)) := by
  have h := mTimes_at _ _ _ _ (show_size hp).1 (show_size hp).2 (show_size hq).1 (show_size hq).2 w ht
  rw [(op_show (op := (· * ·)) hp hq hs).1, (op_show (op := (· * ·)) hp hq hs).2] at h
  exact h
theorem mOverQ (p q : Rat) (hp : Fits p) (hq : Fits q) (h0 : q ≠ 0) (hs : Fits (p / q)) (w : World) (ht : Tab w) : Calls Tryz.prog 13 #[rtV p, rtV q] w (RtP w (p / q)) := by
  obtain ⟨e1, e2, hi⟩ := inv_show hq h0
  rw [Rat.div_def] at hs ⊢
  have h := mOver_at (showN p) (showD p) (showN q) (showD q) (show_size hp).1 (show_size hp).2 (show_size hq).1 (show_size hq).2 (by rw [e1]; exact (show_size hi).1) (by rw [e2]; exact (show_size hi).2) w ht
  rw [e1, e2, (op_show (op := (· * ·)) hp hi hs).1, (op_show (op := (· * ·)) hp hi hs).2] at h
  exact h
theorem mMinusQ (p q : Rat) (hp : Fits p) (hq : Fits q) (hs : Fits (p - q)) (w : World) (ht : Tab w) : Calls Tryz.prog 18 #[rtV p, rtV q] w (RtP w (p - q)) := by
  have e : ((-1 : Int) : Rat) * q = -q := by
    have : ((-1 : Int) : Rat) = -1 := by decide
    rw [this]; grind
  refine mMinus_at (showN p) (showD p) (showN q) (showD q) (showN ((-1 : Int) : Rat)) (showD ((-1 : Int) : Rat)) (showN (-q)) (showD (-q)) (showN (p - q)) (showD (p - q)) (show_size hp).1 (show_size hp).2 (Lib.hid fun w' h' => mWholeQ (-1) (by decide) (by decide) w' h') (Lib.hid fun w' h' => ?_) (Lib.hid fun w' h' => ?_) w ht
  · have h := mTimesQ ((-1 : Int) : Rat) q (fits_int (by decide)) hq (by rw [e]; exact fits_neg hq) w' h'
    rw [e] at h
    exact h
  · rw [Rat.sub_eq_add_neg] at hs ⊢
    exact mPlusQ p (-q) hp (fits_neg hq) hs w' h'
theorem mLessQ (p q : Rat) (hp : Fits p) (hq : Fits q) (w : World) (ht : Tab w) : Calls Tryz.prog 16 #[rtV p, rtV q] w (fun e w' => e = .returned (.bool (decide (p < q))) ∧ Below w.heap.size w w') := by
  have h := mLess_at _ _ _ _ (show_size hp).1 (show_size hp).2 (show_size hq).1 (show_size hq).2 w ht
  rw [ord_show hp hq] at h
  have e : decide (cmpQ p q < 0) = decide (p < q) := by
    by_cases hl : p < q
    · rw [decide_eq_true hl, decide_eq_true (cmpQ_neg.2 hl)]
    · rw [decide_eq_false hl, decide_eq_false (fun h' => hl (cmpQ_neg.1 h'))]
  rw [e] at h
  exact h
end Nt
end Go.Proofs.YtlbnjgnbpiidaaaGreatDoor
namespace Go.Proofs.YtlbnjgnbpiidaaaGreatDoor
open Go.RowKit
namespace Nt
open _root_.Go.Proofs.YtlbnjgnbpiidaaaGreatDoor.Nm (showN showD Fits show_size show_back rF rQ cutS cutS_size cmpQ trimPrefix_at fits_int FPost)
theorem show_parts {n d : ByteArray} (h : rF n d = 0) : ∃ q, Fits q ∧ rQ n d = q ∧ n = showN q ∧ d = showD q := by
 obtain ⟨h1, h2, h3⟩ := show_back h
 exact ⟨rQ n d, h3, rfl, h1.symm, h2.symm⟩
end Nt
end Go.Proofs.YtlbnjgnbpiidaaaGreatDoor
namespace Go.Proofs.YtlbnjgnbpiidaaaGreatDoor
namespace Nm

theorem natCast_nonneg (n : Nat) : (0 : Rat) ≤ ((n : Nat) : Rat) := by
  have := (Rat.natCast_le_natCast (a := 0) (b := n)).2 (Nat.zero_le _)
  exact this
end Nm
end Go.Proofs.YtlbnjgnbpiidaaaGreatDoor
namespace Go.Proofs.YtlbnjgnbpiidaaaGreatDoor
open Go.RowKit
namespace Nm
theorem rat_neg {q : Rat} : q.num < 0 ↔ q < 0 := by
  rw [Rat.lt_iff]
  simp
theorem Ln.small {a b : Nat} {q : Rat} (h : Ln a b q) (ha : a ≤ 5000) (hb : b ≤ 5000) : wlen q.num.natAbs ≤ 6000 ∧ wlen q.den ≤ 6000 := by
  have k1 : 10 ^ a < 10 ^ (a + 1) := Nat.pow_lt_pow_right (by decide) (Nat.lt_succ_self a)
  have k2 : 10 ^ b < 10 ^ (b + 1) := Nat.pow_lt_pow_right (by decide) (Nat.lt_succ_self b)
  have h1 := wlen_dec (Nat.lt_of_le_of_lt h.1 k1)
  have h2 := wlen_dec (Nat.lt_of_le_of_lt h.2 k2)
  omega
def XIf3 (w : World) (f : Int) (v : Value) (q : Rat) : Prop := f = 0 → XR w v q
theorem XIf3.ext {w w' : World} {f : Int} {v : Value} {q : Rat} (h : XIf3 w f v q) (hb : Below w.heap.size w w') : XIf3 w' f v q := fun h0 => (h h0).ext hb
end Nm
end Go.Proofs.YtlbnjgnbpiidaaaGreatDoor
namespace Go.Proofs.YtlbnjgnbpiidaaaGreatDoor
open Go.RowKit
namespace Nm
def TP.num (n : Nat) : TP := ⟨fun w v => N w v n, fun _ _ _ hb h => h.ext hb⟩
def XIf (w : World) (n d : ByteArray) (v : Value) : Prop := rF n d = 0 → XR w v (rQ n d)
theorem XIf.ext {w w' : World} {n d : ByteArray} {v : Value} (h : XIf w n d v) (hb : Below w.heap.size w w') : XIf w' n d v := fun h0 => (h h0).ext hb
end Nm
end Go.Proofs.YtlbnjgnbpiidaaaGreatDoor
namespace Go.Proofs.YtlbnjgnbpiidaaaGreatDoor
open Go.RowKit
namespace Nm
structure Y3 where
 b : Bool
 a1 : Option Addr
 n1 : Nat
 c1 : Nat
 a2 : Option Addr
 n2 : Nat
 c2 : Nat
def y3L (t : Y3) : List Value := [.bool t.b, .slice t.a1 t.n1 t.c1, .slice t.a2 t.n2 t.c2]
def y3V (t : Y3) : Value := xv t.b t.a1 t.n1 t.c1 t.a2 t.n2 t.c2
/-- numbers read so far, in a row of the call's own -/
structure XL (w wr : World) (base : Nat) (gs : List RT) (v : Value) (k : Nat) (xs : List Y3) : Prop where
 low : Below w.heap.size w wr
 own : wr.ownsRow base 52 3 v k (xs.flatMap y3L)
 q : RowQ NW wr v
 len : xs.length = k
 ok : ∀ (i : Nat) x r, xs[i]? = some x → gs[i]? = some r → XR wr (y3V x) (rQ r.n r.d)
 bs : base ≤ wr.heap.size
 lw : w.heap.size ≤ base
theorem XL.ext {w wr w' : World} {base : Nat} {gs : List RT} {v : Value} {k : Nat} {xs : List Y3} (h : XL w wr base gs v k xs) (hb : Below wr.heap.size wr w') : XL w w' base gs v k xs :=
 ⟨ext_trans h.low hb, ownsRow_ext h.own hb, h.q.ext h.own hb, h.len, fun i x r h1 h2 => (h.ok i x r h1 h2).ext hb, Nat.le_trans h.bs hb.size, h.lw⟩
theorem XL.push {w wr w' : World} {base : Nat} {gs : List RT} {v v' : Value} {k : Nat} {xs : List Y3} (h : XL w wr base gs v k xs) (x : Y3) (hg : wr.grownBy w' v.ownBlock)
  (hown : w'.ownsRow base 52 3 v' (k + 1) (xs.flatMap y3L ++ y3L x)) (hq : RowQ NW w' v') {r : RT} (hr : gs[k]? = some r) (hx : XR wr (y3V x) (rQ r.n r.d)) : XL w w' base gs v' (k + 1) (xs ++ [x]) := by
 have lt : ∀ q, v.ownBlock = some q → base ≤ q := fun q e => (h.own.lt q e).1
 have h1 := h.lw
 refine ⟨h.low.grown hg h.low.size (fun q e => by have := lt q e; omega), ?_, hq, by rw [List.length_append, h.len]; rfl, ?_, Nat.le_trans h.bs hg.size, h1⟩
 ·rw [List.flatMap_append]; simpa using hown
 ·intro i x' r' e1 e2
  rcases Nat.lt_or_ge i k with hi | hi
  ·rw [List.getElem?_append_left (by rw [h.len]; exact hi)] at e1
   exact (h.ok i x' r' e1 e2).keepQ h.q hg
  ·rw [List.getElem?_append_right (by rw [h.len]; exact hi), h.len] at e1
   have hi' : i - k = 0 := by
    rcases Nat.eq_zero_or_pos (i - k) with h0 | h0
    ·exact h0
    ·rw [List.getElem?_eq_none (by simp; omega)] at e1; cases e1
   rw [hi'] at e1
   obtain rfl : x = x' := by simpa using e1
   have hik : i = k := by omega
   subst hik
   rw [hr] at e2
   cases e2
   exact hx.keepQ h.q hg
/-- numbers that lie in memory as the ratios of a list say -/
structure XsOf (w : World) (gs : List RT) (xs : List Y3) (a : Option Addr) (c : Nat) : Prop where
 len : xs.length = gs.length
 sl : Sl w (.slice a xs.length c) xs.length (xs.flatMap y3L)
 ok : ∀ (i : Nat) x r, xs[i]? = some x → gs[i]? = some r → XR w (y3V x) (rQ r.n r.d)
theorem XsOf.ext {w w' : World} {gs : List RT} {xs : List Y3} {a : Option Addr} {c : Nat} (h : XsOf w gs xs a c) (hb : Below w.heap.size w w') : XsOf w' gs xs a c :=
 ⟨h.len, h.sl.ext hb, fun i x r h1 h2 => (h.ok i x r h1 h2).ext hb⟩
def XsIf (w : World) (f : Int) (gs : List RT) (xs : List Y3) (a : Option Addr) (c : Nat) : Prop := f = 0 → XsOf w gs xs a c
theorem XsIf.ext {w w' : World} {f : Int} {gs : List RT} {xs : List Y3} {a : Option Addr} {c : Nat} (h : XsIf w f gs xs a c) (hb : Below w.heap.size w w') : XsIf w' f gs xs a c := fun h0 => (h h0).ext hb
end Nm
end Go.Proofs.YtlbnjgnbpiidaaaGreatDoor
namespace Go.Proofs.YtlbnjgnbpiidaaaGreatDoor
open Go.RowKit
namespace Nm
end Nm
namespace Nt
open _root_.Go.Proofs.YtlbnjgnbpiidaaaGreatDoor.Nm (showN showD Fits fits_int Ln AnsPost quoN quoD quoF)
theorem times_is (p q r : Rat) (h : p * q = r) (hp : Fits p) (hq : Fits q) (hs : Fits r) (w : World) (ht : Tab w) : Calls Tryz.prog 19 #[rtV p, rtV q] w (RtP w r) := by subst h; exact mTimesQ p q hp hq hs w ht
theorem plus_is (p q r : Rat) (h : p + q = r) (hp : Fits p) (hq : Fits q) (hs : Fits r) (w : World) (ht : Tab w) : Calls Tryz.prog 17 #[rtV p, rtV q] w (RtP w r) := by subst h; exact mPlusQ p q hp hq hs w ht
theorem minus_is (p q r : Rat) (h : p - q = r) (hp : Fits p) (hq : Fits q) (hs : Fits r) (w : World) (ht : Tab w) : Calls Tryz.prog 18 #[rtV p, rtV q] w (RtP w r) := by subst h; exact mMinusQ p q hp hq hs w ht
theorem over_is (p q r : Rat) (h : p / q = r) (hp : Fits p) (hq : Fits q) (h0 : q ≠ 0) (hs : Fits r) (w : World) (ht : Tab w) : Calls Tryz.prog 13 #[rtV p, rtV q] w (RtP w r) := by subst h; exact mOverQ p q hp hq h0 hs w ht
end Nt
end Go.Proofs.YtlbnjgnbpiidaaaGreatDoor
namespace Go.Proofs.YtlbnjgnbpiidaaaGreatDoor
open Go.RowKit
namespace Nm
/-- a product of k evidences -/
def PrOk (k : Nat) (p : Rat) : Prop := Ln (100 * k) (100 * k) p
theorem PrOk.one : PrOk 0 1 := by
 have h := Ln.nat (n := 1) (a := 0) (by decide)
 exact h
theorem PrOk.mul {k : Nat} {p q : Rat} (h : PrOk k p) (hq : Ln 100 100 q) : PrOk (k + 1) (p * q) := (Ln.mul h hq).mono (by omega) (by omega)
theorem PrOk.fits {k : Nat} {p : Rat} (h : PrOk k p) (hk : k ≤ 10) : Fits p := Ln.fits h (by omega) (by omega)
theorem PrOk.small {k : Nat} {p : Rat} (h : PrOk k p) (hk : k ≤ 10) : wlen p.num.natAbs ≤ 6000 ∧ wlen p.den ≤ 6000 := Ln.small h (by omega) (by omega)
def y3C (t : Y3) : Array Value := #[.bool t.b, .slice t.a1 t.n1 t.c1, .slice t.a2 t.n2 t.c2]
/-- a number in a block of the call's own that may be written -/
def Acc (w : World) (b : Nat) (s : Rat) : Prop := (∃ t, Box w b (y3C t) ∧ XR w (y3V t) s) ∧ Fre w b
theorem Acc.ext {w w' : World} {b : Nat} {s : Rat} (h : Acc w b s) (hb : Below w.heap.size w w') : Acc w' b s := by
 obtain ⟨⟨t, h1, h2⟩, h3⟩ := h
 exact ⟨⟨t, h1.ext hb, h2.ext hb⟩, h3.ext h1 hb⟩
/-- the world since W0: what lay below b is as it was -/
def Since (b : Nat) (W0 w : World) : Prop := Below b W0 w ∧ b ≤ w.heap.size
theorem Since.ext {b : Nat} {W0 w w' : World} (h : Since b W0 w) (hb : Below w.heap.size w w') : Since b W0 w' := ⟨h.1.trans (hb.mono h.2), Nat.le_trans h.2 hb.size⟩
end Nm
namespace Nt
open _root_.Go.Proofs.YtlbnjgnbpiidaaaGreatDoor.Nm (rF rQ showN showD Fits RT rtOk AnsPost PrOk PrOk.one PrOk.mul PrOk.fits Ln)
end Nt
end Go.Proofs.YtlbnjgnbpiidaaaGreatDoor
