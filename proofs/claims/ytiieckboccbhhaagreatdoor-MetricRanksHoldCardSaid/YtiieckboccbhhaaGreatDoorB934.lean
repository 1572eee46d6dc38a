/- Whole, Plus, Times, Minus, Over, Less of the references: on texts. Printed by gen_rm.py. What is written is read back; the plain law of RatiosAddUp. Plain: how long the numbers of a calculation can be. No program stands in it. Whole, Plus, Times, Minus, Over, Less of the references: on numbers that are short enough. decides of package decide, and the closure that decided hands to walk. The closure that decided hands to walk; walk with it; decided. Pairs of package decide: two rows of the call's own that grow, in an array of two. decided and readTest of package decide. The closure that Course hands to walk; walk with it. readPlan of package decide. IsShort, IsMiss, CheckTest, enough of the references. Printed by gen_rdec.py. Plain: the evidence as a number: it starts at 1, is never below 0, and a pair leaves it as it is on average. Several evidences: what is right, in plain words. -/
import Derived.Test.YtiieckboccbhhaaGreatDoorB933
import Derived.Test.YtiieckboccbhhaaGreatDoorB913
import Derived.Test.YtiieckboccbhhaaGreatDoorB904
import Derived.Test.YtiieckboccbhhaaGreatDoorB909
import Derived.Test.YtiieckboccbhhaaGreatDoorB922
import Derived.Test.YtiieckboccbhhaaGreatDoorB925
import Derived.Deep.Cut
import Derived.Test.YtiieckboccbhhaaGreatDoorProg
import Derived.Maps.AppendAt
import Derived.Deep.RegionLaw
import Derived.Deep.QuietTactic
import Derived.BigQuiet
import Derived.BigRegion
import Derived.IntWalk
namespace Go.Proofs.YtiieckboccbhhaaGreatDoor
open Go.RowKit
namespace Nt
open _root_.Go.Proofs.YtiieckboccbhhaaGreatDoor.Nm (rF rQ sgn outN outD outF AnsPost bF quoN quoD quoF ordV OrdPost)
/-- a call that returns a ratio -/
def RPost (w : World) (s t : ByteArray) (e : Ending) (w' : World) : Prop := e = .returned (.agg #[.string s, .string t]) ∧ Below w.heap.size w w'
set_option maxRecDepth 100000 in
set_option maxHeartbeats 8000000 in
theorem mWhole_at (n : Int) (h1 : -9223372036854775808 ≤ n) (h2 : n ≤ 9223372036854775807) (w : World) (ht : Tab w) : Calls Tryz.prog 12 #[.int .i64 n] w (RPost w (quoN n 1) (quoD n 1)) := by
 obtain ⟨s, hs⟩ : ∃ s, quoN n 1 = s := ⟨_, rfl⟩
 obtain ⟨t, htt⟩ : ∃ t, quoD n 1 = t := ⟨_, rfl⟩
 have HST := Lib.hid (And.intro hs htt)
 rw [hs, htt]
 clear hs htt
 go_enter Tryz.func12, Tryz.ntmps12
 go_upto_region 1 with (fail)
 refine wp_box1r fun W hsz hbW hC hF => ?_
 have HT := Lib.hid (ht.ext hbW)
 clear hsz ht
 have HX := Lib.hid (And.intro hC (And.intro hF hbW))
 clear hC hF hbW
 go_wp2_with fail
 refine (refRatioOf_at n 1 h1 h2 (by omega) (by omega) W HT.out).mono ?_
 rintro e w1 ⟨rfl, hb1⟩
 rw [HST.out.1, HST.out.2]
 have HX1 := Lib.hid (And.intro (HX.out.1.ext hb1) (And.intro (HX.out.2.1.ext HX.out.1 hb1) (ext_trans HX.out.2.2 hb1)))
 clear HX HT hb1
 go_upto_region 2 with (fail)
 refine wp_box1 fun w2 hsz2 hb2 hR => ?_
 have hC2 := HX1.out.1.ext hb2
 have hF2 := HX1.out.2.1.ext HX1.out.1 hb2
 have hbw2 := ext_trans HX1.out.2.2 hb2
 clear hsz2 HX1 hb2
 generalize w1.heap.size = br at *
 have x0 : w2.cell? ⟨br, 0, none⟩ = some (.string s) := hR.2 0
 have x1 : w2.cell? ⟨br, 1, none⟩ = some (.string t) := hR.2 1
 have r0 : w2.cell? ⟨w.heap.size, 0, none⟩ = some (.string ⟨#[]⟩) := hC2.2 0
 have r1 : w2.cell? ⟨w.heap.size, 1, none⟩ = some (.string ⟨#[]⟩) := hC2.2 1
 have g0 := hF2 0
 have g1 := hF2 1
 have HR := Lib.hid (res2s (.string s) (.string t) hC2 hbw2 (Nat.le_refl _))
 obtain ⟨hbF, z0, z1⟩ := id HR.out
 clear hC2 hF2 hbw2 hR hbF
 go_wp2
 exact bodyPost_ret (v := .agg #[.string s, .string t]) (by simp [results, Tryz.results12, go_sem, z0, z1]) rfl ⟨rfl, HR.out.1⟩
set_option maxRecDepth 100000 in
set_option maxHeartbeats 8000000 in
theorem mLess_at (n1 d1 n2 d2 : ByteArray) (h1 : n1.size ≤ maxLen) (h2 : d1.size ≤ maxLen) (h3 : n2.size ≤ maxLen) (h4 : d2.size ≤ maxLen) (w : World) (ht : Tab w) : Calls Tryz.prog 10 #[.agg #[.string n1, .string d1], .agg #[.string n2, .string d2]] w (fun e w' => e = .returned (.bool (decide (ordV n1 d1 n2 d2 < 0))) ∧ Below w.heap.size w w') := by
 obtain ⟨o, ho⟩ : ∃ o, ordV n1 d1 n2 d2 = o := ⟨_, rfl⟩
 have HO := Lib.hid ho
 rw [ho]
 clear ho
 go_enter Tryz.func10, Tryz.ntmps10
 go_upto_region 1 with (fail)
 refine wp_box2 fun W hsz hbW hA hB => ?_
 have HT := Lib.hid (ht.ext hbW)
 clear hsz ht
 have a0 : W.cell? ⟨w.heap.size, 0, none⟩ = some (.string n1) := hA.2 0
 have a1 : W.cell? ⟨w.heap.size, 1, none⟩ = some (.string d1) := hA.2 1
 have a2 : W.cell? ⟨w.heap.size + 1, 0, none⟩ = some (.string n2) := hB.2 0
 have a3 : W.cell? ⟨w.heap.size + 1, 1, none⟩ = some (.string d2) := hB.2 1
 clear hA hB
 go_wp2_with fail
 refine (refOrder_at n1 d1 n2 d2 h1 h2 h3 h4 W HT.out).mono ?_
 rintro e w1 ⟨rfl, hb1⟩
 rw [HO.out]
 have hbw1 := ext_trans hbW hb1
 clear a0 a1 a2 a3 HT hb1 hbW
 go_wp2
 all_goals go_ret
 all_goals exact ⟨by simp_all, hbw1⟩
end Nt
end Go.Proofs.YtiieckboccbhhaaGreatDoor
namespace Go.Proofs.YtiieckboccbhhaaGreatDoor
namespace Nm
theorem decS_first (x : Nat) : cutB (decS x) = false := by
  obtain ⟨hd, c, r, h, _⟩ := decS_whl x
  rw [h]
  have := hd c (by rw [h]; simp)
  simp only [cutB]
  apply decide_eq_false
  intro hc
  subst hc
  have h2 : (45 : UInt8).toNat = 45 := rfl
  omega
theorem cut_show (q : Rat) : cutB (showN q).data.toList = decide (q.num < 0) ∧ (cutS (showN q)).data.toList = decS q.num.natAbs := by
  rw [cutS_list]
  unfold showN
  rw [strOf_list]
  unfold numL cutL
  by_cases h : q.num < 0
  · rw [if_pos h]; simp [cutB, h]
  · rw [if_neg h, decS_first]; simp [h]
theorem decS_ne_zero {x : Nat} (h : x ≠ 0) : (decS x == [48]) = false := by
  rw [beq_eq_false_iff_ne]
  intro e
  have := decv_decS x
  rw [e] at this
  exact h this.symm
theorem size_list (s : ByteArray) : s.size = s.data.toList.length := Array.length_toList.symm
theorem back {q : Rat} (h : Fits q) : rF (showN q) (showD q) = 0 ∧ rQ (showN q) (showD q) = q := by
  obtain ⟨h1, h2⟩ := cut_show q
  have hD : (showD q).data.toList = decS q.den := rfl
  have hv1 : decv (cutS (showN q)).data.toList = q.num.natAbs := by rw [h2, decv_decS]
  have hv2 : decv (showD q).data.toList = q.den := by rw [hD, decv_decS]
  constructor
  · unfold rF
    have hb : badR (cutS (showN q)) (showD q) (cutB (showN q).data.toList) = false := by
      unfold badR
      rw [h2, hD, h1, ByteArray.toList_eq, ByteArray.toList_eq, h2, hD, whl_whole (decS_whl _), whl_whole (decS_whl _), decS_ne_zero q.den_nz]
      by_cases hn : q.num < 0
      · rw [decS_ne_zero (by omega)]; simp
      · simp [hn]
    have hl : ¬ largeR (cutS (showN q)) (showD q) := by
      unfold largeR
      rw [size_list, size_list, h2, hD]
      have := h.1
      have := h.2
      omega
    have hg : ¬ (Nat.gcd (decv (cutS (showN q)).data.toList) (decv (showD q).data.toList) ≠ 1) := by
      rw [hv1, hv2]; exact not_not_intro q.reduced
    rw [if_neg (by rw [hb]; simp), if_neg hl, if_neg hg]
  · unfold rQ
    rw [hv1, hv2, h1, sgn_self]
    unfold mkRat
    rw [dif_neg q.den_nz]
    exact Rat.normalize_self q
theorem ext_bytes {s t : ByteArray} (h : s.data.toList = t.data.toList) : s = t := by
  apply ByteArray.ext
  exact Array.toList_inj.1 h
theorem cut_join (n : ByteArray) : n.data.toList = if cutB n.data.toList then 45 :: cutL n.data.toList else cutL n.data.toList := by
  unfold cutL
  cases h : n.data.toList with
  | nil => simp [cutB]
  | cons c r =>
    by_cases hc : c = 45
    · subst hc; simp [cutB]
    · simp [cutB, hc]
theorem show_back {n d : ByteArray} (h : rF n d = 0) : showN (rQ n d) = n ∧ showD (rQ n d) = d ∧ Fits (rQ n d) := by
  obtain ⟨_, h2, h3, h4, h5, h6, h7, h8⟩ := rQ_facts h
  have e1 := whl_eq _ _ (whole_whl h4) rfl
  have e2 := whl_eq _ _ (whole_whl h5) rfl
  have hna : (rQ n d).num.natAbs = decv (cutS n).data.toList := by rw [h2, sgn_natAbs]
  refine ⟨?_, ?_, ?_⟩
  · apply ext_bytes
    unfold showN
    rw [strOf_list]
    unfold numL
    rw [hna, ← e1, cutS_list]
    have hj := cut_join n
    by_cases hn : (rQ n d).num < 0
    · rw [if_pos hn]
      rw [decide_eq_true hn] at h8
      rw [← h8] at hj
      simpa using hj.symm
    · rw [if_neg hn]
      rw [decide_eq_false hn] at h8
      rw [← h8] at hj
      simpa using hj.symm
  · apply ext_bytes
    unfold showD
    rw [strOf_list, h3, ← e2]
  · unfold Fits
    rw [hna, h3, ← e1, ← e2, ← size_list, ← size_list]
    exact ⟨h6, h7⟩
end Nm
end Go.Proofs.YtiieckboccbhhaaGreatDoor
namespace Go.Proofs.YtiieckboccbhhaaGreatDoor
namespace Nm
/-- q is m / D, m not above M, of any sign -/
def FZ (D M : Nat) (q : Rat) : Prop := D ≠ 0 ∧ ∃ m : Int, m.natAbs ≤ M ∧ q = mkRat m D
/-- bounds of the numerator and of the denominator -/
def Bd (A B : Nat) (q : Rat) : Prop := q.num.natAbs ≤ A ∧ q.den ≤ B
theorem FZ.zero {D : Nat} (hD : D ≠ 0) (M : Nat) : FZ D M 0 := ⟨hD, 0, Nat.zero_le _, by simp⟩
theorem FZ.mono {D M M' : Nat} {q : Rat} (h : FZ D M q) (hM : M ≤ M') : FZ D M' q := by
  obtain ⟨hD, m, hm, rfl⟩ := h; exact ⟨hD, m, Nat.le_trans hm hM, rfl⟩
theorem FZ.scale {D M : Nat} {q : Rat} (h : FZ D M q) {c : Nat} (hc : c ≠ 0) : FZ (D * c) (M * c) q := by
  obtain ⟨hD, m, hm, rfl⟩ := h
  refine ⟨Nat.mul_ne_zero hD hc, m * (c : Int), ?_, ?_⟩
  · rw [Int.natAbs_mul, Int.natAbs_natCast]; exact Nat.mul_le_mul_right _ hm
  · rw [Rat.mkRat_mul_right hc]
theorem FZ.add {D M N : Nat} {p q : Rat} (h : FZ D M p) (k : FZ D N q) : FZ D (M + N) (p + q) := by
  obtain ⟨hD, m, hm, rfl⟩ := h
  obtain ⟨_, n, hn, rfl⟩ := k
  refine ⟨hD, m + n, by omega, ?_⟩
  rw [Rat.mkRat_add_mkRat _ _ hD hD, ← Int.add_mul, Rat.mkRat_mul_right hD]
theorem FZ.neg {D M : Nat} {q : Rat} (h : FZ D M q) : FZ D M (-q) := by
  obtain ⟨hD, m, hm, rfl⟩ := h
  exact ⟨hD, -m, by omega, by rw [Rat.neg_mkRat]⟩
theorem FZ.sub {D M N : Nat} {p q : Rat} (h : FZ D M p) (k : FZ D N q) : FZ D (M + N) (p - q) := by
  rw [Rat.sub_eq_add_neg]; exact h.add k.neg
theorem FZ.mul {D E M N : Nat} {p q : Rat} (h : FZ D M p) (k : FZ E N q) : FZ (D * E) (M * N) (p * q) := by
  obtain ⟨hD, m, hm, rfl⟩ := h
  obtain ⟨hE, n, hn, rfl⟩ := k
  refine ⟨Nat.mul_ne_zero hD hE, m * n, ?_, ?_⟩
  · rw [Int.natAbs_mul]; exact Nat.mul_le_mul hm hn
  · rw [Rat.mkRat_mul_mkRat]
theorem FZ.int {z : Int} {M : Nat} (h : z.natAbs ≤ M) : FZ 1 M (z : Rat) := ⟨by omega, z, h, by rw [Rat.mkRat_one]⟩
theorem FZ.nat {n M : Nat} (h : n ≤ M) : FZ 1 M ((n : Nat) : Rat) := ⟨by omega, (n : Int), h, by rw [Rat.mkRat_one, Rat.intCast_natCast]⟩
theorem FZ.bd {D M : Nat} {q : Rat} (h : FZ D M q) : Bd M D q := by
  obtain ⟨hD, m, hm, rfl⟩ := h
  have e : mkRat m D = Rat.normalize (sgn (decide (m < 0)) m.natAbs) D hD := by rw [Rat.normalize_eq_mkRat, sgn_self]
  unfold Bd
  rw [e, norm_abs, norm_den]
  exact ⟨Nat.le_trans (Nat.div_le_self _ _) hm, Nat.div_le_self _ _⟩
theorem Bd.mono {A B A' B' : Nat} {q : Rat} (h : Bd A B q) (h1 : A ≤ A') (h2 : B ≤ B') : Bd A' B' q := ⟨Nat.le_trans h.1 h1, Nat.le_trans h.2 h2⟩
theorem Bd.self (q : Rat) : FZ q.den q.num.natAbs q := ⟨q.den_nz, q.num, Nat.le_refl _, (Rat.mkRat_self q).symm⟩
theorem Bd.int {z : Int} {M : Nat} (h : z.natAbs ≤ M) : Bd M 1 (z : Rat) := (FZ.int h).bd
theorem Bd.nat {n M : Nat} (h : n ≤ M) : Bd M 1 ((n : Nat) : Rat) := (FZ.nat h).bd
theorem Bd.mul {A B A' B' : Nat} {p q : Rat} (h : Bd A B p) (k : Bd A' B' q) : Bd (A * A') (B * B') (p * q) :=
  ((Bd.self p).mul (Bd.self q)).bd.mono (Nat.mul_le_mul h.1 k.1) (Nat.mul_le_mul h.2 k.2)
theorem Bd.neg {A B : Nat} {q : Rat} (h : Bd A B q) : Bd A B (-q) := (Bd.self q).neg.bd.mono h.1 h.2
theorem Bd.add {A B A' B' : Nat} {p q : Rat} (h : Bd A B p) (k : Bd A' B' q) : Bd (A * B' + A' * B) (B * B') (p + q) := by
  have h1 := (Bd.self p).scale (c := q.den) q.den_nz
  have h2 := (Bd.self q).scale (c := p.den) p.den_nz
  rw [Nat.mul_comm q.den p.den] at h2
  exact (h1.add h2).bd.mono (Nat.add_le_add (Nat.mul_le_mul h.1 k.2) (Nat.mul_le_mul k.1 h.2)) (Nat.mul_le_mul h.2 k.2)
theorem Bd.sub {A B A' B' : Nat} {p q : Rat} (h : Bd A B p) (k : Bd A' B' q) : Bd (A * B' + A' * B) (B * B') (p - q) := by
  rw [Rat.sub_eq_add_neg]; exact h.add k.neg
theorem Bd.inv {A B : Nat} {q : Rat} (h : Bd A B q) (h0 : q ≠ 0) : Bd B A q⁻¹ := by
  have hn : q.num ≠ 0 := fun e => h0 (Rat.num_eq_zero.1 e)
  obtain ⟨f1, f2, _, _⟩ := inv_facts hn
  exact ⟨by rw [f1]; exact h.2, by rw [f2]; exact h.1⟩
/-- lengths: at most so many digits -/
def Ln (a b : Nat) (q : Rat) : Prop := q.num.natAbs ≤ 10 ^ a ∧ q.den ≤ 10 ^ b
theorem ten_le {a b : Nat} (h : a ≤ b) : 10 ^ a ≤ 10 ^ b := Nat.pow_le_pow_right (by decide) h
theorem ten_two {a b : Nat} : 10 ^ a + 10 ^ b ≤ 10 ^ (max a b + 1) := by
  have h1 : 10 ^ a ≤ 10 ^ max a b := ten_le (Nat.le_max_left _ _)
  have h2 : 10 ^ b ≤ 10 ^ max a b := ten_le (Nat.le_max_right _ _)
  rw [Nat.pow_succ]; omega
theorem Bd.ln {A B a b : Nat} {q : Rat} (h : Bd A B q) (h1 : A ≤ 10 ^ a) (h2 : B ≤ 10 ^ b) : Ln a b q := ⟨Nat.le_trans h.1 h1, Nat.le_trans h.2 h2⟩
theorem FZ.ln {D M a b : Nat} {q : Rat} (h : FZ D M q) (h1 : M ≤ 10 ^ a) (h2 : D ≤ 10 ^ b) : Ln a b q := h.bd.ln h1 h2
theorem Ln.mono {a b a' b' : Nat} {q : Rat} (h : Ln a b q) (h1 : a ≤ a') (h2 : b ≤ b') : Ln a' b' q := ⟨Nat.le_trans h.1 (ten_le h1), Nat.le_trans h.2 (ten_le h2)⟩
theorem Ln.mul {a b a' b' : Nat} {p q : Rat} (h : Ln a b p) (k : Ln a' b' q) : Ln (a + a') (b + b') (p * q) :=
  (Bd.mul h k).ln (by rw [Nat.pow_add]; exact Nat.le_refl _) (by rw [Nat.pow_add]; exact Nat.le_refl _)
theorem Ln.neg {a b : Nat} {q : Rat} (h : Ln a b q) : Ln a b (-q) := Bd.neg h
theorem Ln.add {a b a' b' : Nat} {p q : Rat} (h : Ln a b p) (k : Ln a' b' q) : Ln (max (a + b') (a' + b) + 1) (b + b') (p + q) :=
  (Bd.add h k).ln (by rw [← Nat.pow_add, ← Nat.pow_add]; exact ten_two) (by rw [Nat.pow_add]; exact Nat.le_refl _)
theorem Ln.sub {a b a' b' : Nat} {p q : Rat} (h : Ln a b p) (k : Ln a' b' q) : Ln (max (a + b') (a' + b) + 1) (b + b') (p - q) := by
  rw [Rat.sub_eq_add_neg]; exact h.add k.neg
theorem Ln.inv {a b : Nat} {q : Rat} (h : Ln a b q) (h0 : q ≠ 0) : Ln b a q⁻¹ := Bd.inv h h0
theorem Ln.div {a b a' b' : Nat} {p q : Rat} (h : Ln a b p) (k : Ln a' b' q) (h0 : q ≠ 0) : Ln (a + b') (b + a') (p / q) := by
  rw [Rat.div_def]; exact h.mul (k.inv h0)
theorem Ln.int {z : Int} {a : Nat} (h : z.natAbs ≤ 10 ^ a) : Ln a 0 (z : Rat) := (Bd.int h).ln (Nat.le_refl _) (Nat.le_refl _)
theorem Ln.nat {n a : Nat} (h : n ≤ 10 ^ a) : Ln a 0 ((n : Nat) : Rat) := (Bd.nat h).ln (Nat.le_refl _) (Nat.le_refl _)
end Nm
end Go.Proofs.YtiieckboccbhhaaGreatDoor
namespace Go.Proofs.YtiieckboccbhhaaGreatDoor
open Go.RowKit
namespace Nm
theorem cmpQ_neg {x y : Rat} : cmpQ x y < 0 ↔ x < y := by
  rw [Rat.lt_iff]
  unfold cmpQ cmpZ
  constructor
  · intro h
    by_cases h1 : x.num * (y.den : Int) < y.num * (x.den : Int)
    · exact h1
    · rw [if_neg h1] at h
      split at h <;> omega
  · intro h
    rw [if_pos h]; decide
theorem cmpQ_m1 {x y : Rat} : cmpQ x y = -1 ↔ x < y := by
  rw [← cmpQ_neg]
  rcases cmpQ_range x y with h | h | h <;> omega
theorem fits_of {k : Nat} {q : Rat} (hk : 1 ≤ k) (hk' : k ≤ 4000) (h1 : q.num.natAbs < 10 ^ k) (h2 : q.den < 10 ^ k) : Fits q := ⟨Nat.le_trans (decS_length h1 hk) hk', Nat.le_trans (decS_length h2 hk) hk'⟩
theorem Ln.fits {a b : Nat} {q : Rat} (h : Ln a b q) (h1 : a < 4000) (h2 : b < 4000) : Fits q :=
  fits_of (k := max a b + 1) (by omega) (by omega) (Nat.lt_of_le_of_lt h.1 (Nat.pow_lt_pow_right (by decide) (by omega))) (Nat.lt_of_le_of_lt h.2 (Nat.pow_lt_pow_right (by decide) (by omega)))
/-- the most digits -/
def DM : Nat := 4000
theorem Fits.ln {q : Rat} (h : Fits q) : Ln DM DM q := ⟨Nat.le_of_lt (lt_of_decS (k := DM) h.1), Nat.le_of_lt (lt_of_decS (k := DM) h.2)⟩
theorem fits_int {n : Int} (h : n.natAbs ≤ 10 ^ 200) : Fits (n : Rat) := (Ln.int h).fits (by decide) (by decide)
theorem i64_ten {n : Int} (h1 : -9223372036854775808 ≤ n) (h2 : n ≤ 9223372036854775807) : n.natAbs ≤ 10 ^ 200 := Nat.le_trans (show n.natAbs ≤ 10 ^ 19 by omega) (ten_le (by decide))
theorem show_size {q : Rat} (h : Fits q) : (showN q).size ≤ maxLen ∧ (showD q).size ≤ maxLen := by
  unfold showN showD numL
  rw [strOf_size, strOf_size]
  have h1 := h.1
  have h2 := h.2
  unfold maxLen
  constructor
  · split
    · simp only [List.length_cons]; omega
    · omega
  · omega
theorem out_fits {q : Rat} (h : Fits q) : outN q = showN q ∧ outD q = showD q ∧ outF q = 0 := by
  unfold outN outD outF
  rw [if_pos h, if_pos h, if_pos h]; exact ⟨rfl, rfl, rfl⟩
theorem bF_show {p q : Rat} (hp : Fits p) (hq : Fits q) : bF (showN p) (showD p) (showN q) (showD q) = 0 := by
  unfold bF
  rw [(back hp).1, if_neg (by simp), (back hq).1]
theorem ord_show {p q : Rat} (hp : Fits p) (hq : Fits q) : ordV (showN p) (showD p) (showN q) (showD q) = cmpQ p q := by
  unfold ordV
  rw [if_pos (bF_show hp hq), (back hp).2, (back hq).2]
theorem quoQ_one (n : Int) : quoQ n 1 = (n : Rat) := by
  unfold quoQ
  rw [dif_neg (by decide)]
  have h : (decide (n < 0) != decide ((1 : Int) < 0)) = decide (n < 0) := by simp
  rw [Rat.normalize_eq_mkRat, h, sgn_self]
  exact Rat.mkRat_one n
theorem quo_one {n : Int} (h : n.natAbs ≤ 10 ^ 200) : quoN n 1 = showN (n : Rat) ∧ quoD n 1 = showD (n : Rat) := by
  unfold quoN quoD
  rw [if_neg (by decide), if_neg (by decide), quoQ_one, (out_fits (fits_int h)).1, (out_fits (fits_int h)).2.1]; exact ⟨rfl, rfl⟩
end Nm
namespace Nt
open _root_.Go.Proofs.YtiieckboccbhhaaGreatDoor.Nm (showN showD Fits show_size ord_show quo_one fits_int cmpQ cmpQ_neg i64_ten)
/-- a ratio as a value -/
abbrev rtV (q : Rat) : Value := .agg #[.string (showN q), .string (showD q)]
def RtP (w : World) (q : Rat) (e : Ending) (w' : World) : Prop := e = .returned (rtV q) ∧ Below w.heap.size w w'
theorem mWholeQ (n : Int) (h1 : -9223372036854775808 ≤ n) (h2 : n ≤ 9223372036854775807) (w : World) (ht : Tab w) : Calls Tryz.prog 12 #[.int .i64 n] w (RtP w (n : Rat)) := by
  have h := mWhole_at n h1 h2 w ht
  have hb := i64_ten h1 h2
  rw [(quo_one hb).1, (quo_one hb).2] at h
  exact h
theorem mLessQ (p q : Rat) (hp : Fits p) (hq : Fits q) (w : World) (ht : Tab w) : Calls Tryz.prog 10 #[rtV p, rtV q] w (fun e w' => e = .returned (.bool (decide (p < q))) ∧ Below w.heap.size w w') := by
  have h := mLess_at _ _ _ _ (show_size hp).1 (show_size hp).2 (show_size hq).1 (show_size hq).2 w ht
  rw [ord_show hp hq] at h
  have e : decide (cmpQ p q < 0) = decide (p < q) := by
    by_cases hl : p < q
    · rw [decide_eq_true hl, decide_eq_true (cmpQ_neg.2 hl)]
    · rw [decide_eq_false hl, decide_eq_false (fun h' => hl (cmpQ_neg.1 h'))]
  rw [e] at h
  exact h
end Nt
end Go.Proofs.YtiieckboccbhhaaGreatDoor
namespace Go.Proofs.YtiieckboccbhhaaGreatDoor
open Go.RowKit
namespace Nm
/-- a bettor that lies in memory -/
structure Bett (w : World) (d : Int) (bets : Nat) (q : Rat) (b : Bool) (a1 : Option Addr) (n1 c1 : Nat) (a2 : Option Addr) (n2 c2 : Nat) : Prop where
  d1 : 1 ≤ d
  d3 : d ≤ 3
  b1 : 1 ≤ bets
  b5 : bets ≤ 5
  need : XR w (.agg #[.bool b, .slice a1 n1 c1, .slice a2 n2 c2]) q
  s1 : wlen q.num.natAbs ≤ 4000
  s2 : wlen q.den ≤ 4000
theorem Bett.ext {w w' : World} {d : Int} {bets : Nat} {q : Rat} {b : Bool} {a1 : Option Addr} {n1 c1 : Nat} {a2 : Option Addr} {n2 c2 : Nat} (h : Bett w d bets q b a1 n1 c1 a2 n2 c2) (hb : Below w.heap.size w w') : Bett w' d bets q b a1 n1 c1 a2 n2 c2 :=
  ⟨h.d1, h.d3, h.b1, h.b5, h.need.ext hb, h.s1, h.s2⟩
end Nm
end Go.Proofs.YtiieckboccbhhaaGreatDoor
namespace Go.Proofs.YtiieckboccbhhaaGreatDoor
open Go.RowKit
namespace Nm
/-- what the closure finds: the bettor's box, and the variable's -/
structure CE (w0 w : World) (bB bAt : Nat) (A : Array Value) (z : Int) : Prop where
  base : Below w0.heap.size w0 w
  box : Box w bB A
  at_ : Box w bAt #[.int .i64 z]
  fre : Fre w bAt
  le : w0.heap.size ≤ bAt
  ne : bB ≠ bAt
theorem CE.ext {w0 w w' : World} {bB bAt : Nat} {A : Array Value} {z : Int} (h : CE w0 w bB bAt A z) (hb : Below w.heap.size w w') : CE w0 w' bB bAt A z :=
  ⟨ext_trans h.base hb, h.box.ext hb, h.at_.ext hb, h.fre.ext h.at_ hb, h.le, h.ne⟩
theorem one_box {w : World} {b : Nat} {z y : Value} (h : Box w b #[z]) : Box (w.setCell ⟨b, 0, none⟩ y) b #[y] := by
  refine ⟨by simpa [World.setCell] using h.1, fun j => ?_⟩
  by_cases e : j = 0
  · subst e
    rw [World.cell?_setCell_same _ _ _ (h.2 0)]; rfl
  · rw [World.cell?_setCell_other _ _ _ _ (by intro e'; cases e'; exact e rfl), h.2 j]
    obtain ⟨k, rfl⟩ : ∃ k, j = k + 1 := ⟨j - 1, by omega⟩
    simp
theorem CE.set {w0 w : World} {bB bAt : Nat} {A : Array Value} {z : Int} (h : CE w0 w bB bAt A z) (y : Int) : CE w0 (w.setCell ⟨bAt, 0, none⟩ (.int .i64 y)) bB bAt A y := by
  refine ⟨h.base.setCell h.le _, ?_, one_box h.at_, fun j => by simp; exact h.fre j, h.le, h.ne⟩
  exact ⟨by simpa [World.setCell] using h.box.1, fun j => by rw [World.cell?_setCell_other _ _ _ _ (by intro e; cases e; exact h.ne rfl)]; exact h.box.2 j⟩
end Nm
end Go.Proofs.YtiieckboccbhhaaGreatDoor
namespace Go.Proofs.YtiieckboccbhhaaGreatDoor
open Go.RowKit

def bcs (l : List Bool) : List Value := l.map Value.bool
/-- two rows of the call's own, in an array of two -/
structure PW (wr : World) (bW base : Nat) (v0 v1 : Value) (l0 l1 : List Bool) : Prop where
  box : Box wr bW #[v0, v1]
  fre : Fre wr bW
  own0 : wr.ownsRow base 4 1 v0 l0.length (bcs l0)
  own1 : wr.ownsRow base 4 1 v1 l1.length (bcs l1)
  apart : ∀ k, v0.ownBlock = some k → v1.ownBlock = some k → False
  low : bW < base
theorem PW.ext {wr w' : World} {bW base : Nat} {v0 v1 : Value} {l0 l1 : List Bool} (h : PW wr bW base v0 v1 l0 l1) (hb : Below wr.heap.size wr w') : PW w' bW base v0 v1 l0 l1 :=
  ⟨h.box.ext hb, h.fre.ext h.box hb, ownsRow_ext h.own0 hb, ownsRow_ext h.own1 hb, h.apart, h.low⟩
theorem fre_set {w : World} {b : Nat} (h : Fre w b) (p : Addr) (u : Value) : Fre (w.setCell p u) b := fun j => by simp; exact h j
theorem ownsRow_far {w : World} {base e size n : Nat} {v : Value} {xs : List Value} (h : w.ownsRow base e size v n xs) {p : Addr} (hp : p.block < base) (u : Value) : (w.setCell p u).ownsRow base e size v n xs := by
  refine h.kept (row := some p.block) ⟨rfl, rfl, rfl, by simp [World.setCell], fun k hk hne => Below.heap_setCell w p u k (fun e => hne (by rw [e]))⟩ ?_
  cases e : v.ownBlock with
  | none => exact .inl rfl
  | some k => exact .inr (fun e' => by cases e'; have := (h.lt _ e).1; omega)
theorem fre_grown {w w' : World} {b : Nat} {row : Option Nat} (h : Fre w b) (hb : b < w.heap.size) (hg : w.grownBy w' row) (hr : ∀ q, row = some q → q ≠ b) : Fre w' b := fun j => by
  have e := hg.block b hb (fun e => hr b e.symm rfl)
  have h1 := h j
  unfold World.frozen? at h1 ⊢
  simp only [e] at *
  exact h1
theorem box_grown {w w' : World} {b : Nat} {A : Array Value} {row : Option Nat} (hg : w.grownBy w' row) (h : Box w b A) (hr : ∀ q, row = some q → q ≠ b) : Box w' b A :=
  ⟨Nat.lt_of_lt_of_le h.1 hg.size, fun j => (World.cell?_of_block (w := w) (hg.block b h.1 (fun e => hr b e.symm rfl))).trans (h.2 j)⟩
/-- what a push finds in the array of two -/
theorem PW.at {w w' : World} {bW base : Nat} {v0 v1 v : Value} {l0 l1 : List Bool} (h : PW w bW base v0 v1 l0 l1) (hv : v = v0 ∨ v = v1) (hg : w.grownBy w' v.ownBlock) : (∀ j, w'.cell? ⟨bW, j, none⟩ = #[v0, v1][j]?) ∧ ∀ j, w'.frozen? ⟨bW, j, none⟩ = false := by
  have hr : ∀ q, v.ownBlock = some q → q ≠ bW := fun q e => by
    rcases hv with rfl | rfl
    · have := (h.own0.lt q e).1; have := h.low; omega
    · have := (h.own1.lt q e).1; have := h.low; omega
  exact ⟨(box_grown hg h.box hr).2, fre_grown h.fre h.box.1 hg hr⟩
theorem PW.step {w X Y w7 : World} {base : Nat} {v0 v1 v : Value} {l0 l1 : List Bool} (hbx : Below w.heap.size w X) (h : PW X w.heap.size base v0 v1 l0 l1) (hXY : Below X.heap.size X Y) (hv : v = v0 ∨ v = v1) (hg : Y.grownBy w7 v.ownBlock) (j : Nat) (u : Value) :
    Below w.heap.size w (w7.setCell ⟨w.heap.size, j, none⟩ u) ∧ X.heap.size ≤ (w7.setCell ⟨w.heap.size, j, none⟩ u).heap.size := by
  have h1 := ext_trans hbx hXY
  refine ⟨(h1.grown hg h1.size (fun q e => ?_)).setCell (Nat.le_refl _) _, ?_⟩
  · have hl := h.low
    rcases hv with rfl | rfl
    · have := (h.own0.lt q e).1; omega
    · have := (h.own1.lt q e).1; omega
  · have h2 := hXY.size
    have h3 := hg.size
    simp [World.setCell]; omega
end Go.Proofs.YtiieckboccbhhaaGreatDoor
namespace Go.Proofs.YtiieckboccbhhaaGreatDoor
open Go.RowKit
theorem box_other {w : World} {b b' : Nat} {A : Array Value} (h : Box w b A) (hne : b ≠ b') (j : Nat) (u : Value) : Box (w.setCell ⟨b', j, none⟩ u) b A :=
  ⟨by simpa [World.setCell] using h.1, fun i => by rw [World.cell?_setCell_other _ _ _ _ (by intro e; cases e; exact hne rfl)]; exact h.2 i⟩
namespace Nm
end Nm
end Go.Proofs.YtiieckboccbhhaaGreatDoor
namespace Go.Proofs.YtiieckboccbhhaaGreatDoor
open Go.RowKit
namespace Nm
def Keeps (w w' : World) : Prop := ∀ a v, w.cell? a = some v → w'.cell? a = some v
theorem Keeps.refl (w : World) : Keeps w w := fun _ _ h => h
theorem Keeps.of_below {w w' : World} (h : Below w.heap.size w w') : Keeps w w' := fun a _ hc => (h.cell (p := a) (World.block_lt_of_cell? w a hc)).trans hc
theorem Keeps.trans {a b c : World} (h : Keeps a b) (k : Keeps b c) : Keeps a c := fun x v hx => k x v (h x v hx)
theorem Sl.keep {w w' : World} {v : Value} {n : Nat} {cs : List Value} (h : Sl w v n cs) (hk : Keeps w w') : Sl w' v n cs := by
  obtain ⟨a, cap, hv, h1, h2, h0, h3⟩ := h
  refine ⟨a, cap, hv, h1, h2, h0, fun i x hx => ?_⟩
  obtain ⟨b, o, ha, hc⟩ := h3 i x hx
  exact ⟨b, o, ha, hk _ _ hc⟩
structure CO (w0 wp w : World) (bB bE bO base : Nat) (A : Array Value) (v : Value) (n : Nat) (cs : List Value) : Prop where
  low : Below w0.heap.size w0 w
  box : Box w bB A
  e : Box w bE #[.int .i64 0]
  fe : Fre w bE
  o : Box w bO #[v]
  fo : Fre w bO
  own : w.ownsRow base 23 2 v n cs
  l1 : w0.heap.size ≤ bE
  l2 : w0.heap.size ≤ bO
  l3 : w0.heap.size ≤ base
  t1 : bB < base
  t2 : bE < base
  t3 : bO < base
  n1 : bB ≠ bE
  n2 : bB ≠ bO
  n3 : bE ≠ bO
  bs : base ≤ w.heap.size
  kp : Keeps wp w
  p1 : wp.heap.size ≤ bO
  p2 : wp.heap.size ≤ base
theorem CO.ext {w0 wp w w' : World} {bB bE bO base : Nat} {A : Array Value} {v : Value} {n : Nat} {cs : List Value} (h : CO w0 wp w bB bE bO base A v n cs) (hb : Below w.heap.size w w') : CO w0 wp w' bB bE bO base A v n cs :=
  ⟨ext_trans h.low hb, h.box.ext hb, h.e.ext hb, h.fe.ext h.e hb, h.o.ext hb, h.fo.ext h.o hb, ownsRow_ext h.own hb, h.l1, h.l2, h.l3, h.t1, h.t2, h.t3, h.n1, h.n2, h.n3, Nat.le_trans h.bs hb.size, h.kp.trans (.of_below hb), h.p1, h.p2⟩
theorem CO.push {w0 wp w w' : World} {bB bE bO base : Nat} {A : Array Value} {v v' : Value} {n n' : Nat} {cs cs' : List Value} (h : CO w0 wp w bB bE bO base A v n cs) (hown : w'.ownsRow base 23 2 v' n' cs') (hg : w.grownBy w' v.ownBlock) : CO w0 wp (w'.setCell ⟨bO, 0, none⟩ v') bB bE bO base A v' n' cs' := by
  have hr : ∀ (x : Nat), x < base → ∀ q, v.ownBlock = some q → q ≠ x := fun x hx q e => by have := (h.own.lt q e).1; omega
  have hlow := h.low.grown hg h.low.size (fun q e => by have := (h.own.lt q e).1; have := h.l3; omega)
  exact ⟨hlow.setCell h.l2 _, box_other (box_grown hg h.box (hr _ h.t1)) h.n2 _ _, box_other (box_grown hg h.e (hr _ h.t2)) h.n3 _ _, fre_set (fre_grown h.fe h.e.1 hg (hr _ h.t2)) _ _, one_box (box_grown hg h.o (hr _ h.t3)), fre_set (fre_grown h.fo h.o.1 hg (hr _ h.t3)) _ _, ownsRow_far hown h.t3 _, h.l1, h.l2, h.l3, h.t1, h.t2, h.t3, h.n1, h.n2, h.n3, Nat.le_trans h.bs (by have := hg.size; simpa [World.setCell] using this), (fun a u hc => by
    have hlt := World.block_lt_of_cell? wp a hc
    have hb : a.block ≠ bO := by have := h.p1; omega
    rw [World.cell?_setCell_other _ _ _ _ (by intro e; exact hb (by rw [← e]))]
    exact hg.cell (h.kp a u hc) (fun e => by have := (h.own.lt _ e.symm).1; have := h.p2; omega)), h.p1, h.p2⟩
theorem ownsRow_ne {w : World} {base e size n : Nat} {v : Value} {xs : List Value} (h : w.ownsRow base e size v n xs) {p : Addr} (hp : ∀ q, v.ownBlock = some q → q ≠ p.block) (u : Value) : (w.setCell p u).ownsRow base e size v n xs := by
  refine h.kept (row := some p.block) ⟨rfl, rfl, rfl, by simp [World.setCell], fun k hk hne => Below.heap_setCell w p u k (fun e => hne (by rw [e]))⟩ ?_
  cases e : v.ownBlock with
  | none => exact .inl rfl
  | some k => exact .inr (fun e' => by cases e'; exact hp _ e rfl)
theorem CO.far {w0 wp w : World} {bB bE bO base : Nat} {A : Array Value} {v : Value} {n : Nat} {cs : List Value} (h : CO w0 wp w bB bE bO base A v n cs) {r : Nat} (j : Nat) (hr : base ≤ r) (hv : ∀ q, v.ownBlock = some q → q ≠ r) (u : Value) : CO w0 wp (w.setCell ⟨r, j, none⟩ u) bB bE bO base A v n cs := by
  have h1 := h.t1
  have h2 := h.t2
  have h3 := h.t3
  have h4 := h.l3
  exact ⟨h.low.setCell (Nat.le_trans h4 hr) _, box_other h.box (by omega) _ _, box_other h.e (by omega) _ _, fre_set h.fe _ _, box_other h.o (by omega) _ _, fre_set h.fo _ _, ownsRow_ne h.own hv _, h.l1, h.l2, h.l3, h.t1, h.t2, h.t3, h.n1, h.n2, h.n3, by simpa [World.setCell] using h.bs, (fun a v' hc => by
    have hlt := World.block_lt_of_cell? wp a hc
    have hb : a.block ≠ r := by have := h.p2; omega
    rw [World.cell?_setCell_other _ _ _ _ (by intro e; exact hb (by rw [← e]))]
    exact h.kp a v' hc), h.p1, h.p2⟩
end Nm
end Go.Proofs.YtiieckboccbhhaaGreatDoor
namespace Go.Proofs.YtiieckboccbhhaaGreatDoor
open Go.RowKit
theorem Sl.keepQ {Q : Value → Prop} {w w' : World} {v r : Value} {n : Nat} {cs : List Value} (h : Sl w v n cs) (hq : ∀ u ∈ cs, ¬ Q u) (hR : RowQ Q w r) (hg : w.grownBy w' r.ownBlock) : Sl w' v n cs := by
  obtain ⟨a, cap, hv, h1, h2, h0, h3⟩ := h
  refine ⟨a, cap, hv, h1, h2, h0, fun i x hx => ?_⟩
  obtain ⟨b, o, ha, hc⟩ := h3 i x hx
  refine ⟨b, o, ha, hg.cell hc (fun e => ?_)⟩
  exact hq x (List.mem_of_getElem? hx) (hR b e.symm _ _ hc)
namespace Nm
def NW (u : Value) : Prop := isWord u = false
theorem N.keepQ {w w' : World} {v r : Value} {n : Nat} (h : N w v n) (hR : RowQ NW w r) (hg : w.grownBy w' r.ownBlock) : N w' v n := by
  refine Sl.keepQ h (fun u hu hw => ?_) hR hg
  simp only [wcs, List.mem_map] at hu
  obtain ⟨c, _, rfl⟩ := hu
  cases hw
theorem XR.keepQ {w w' : World} {v r : Value} {q : Rat} (h : XR w v q) (hR : RowQ NW w r) (hg : w.grownBy w' r.ownBlock) : XR w' v q := by
  obtain ⟨v1, v2, h0, h1, h2⟩ := h; exact ⟨v1, v2, h0, h1.keepQ hR hg, h2.keepQ hR hg⟩
structure BV where
  b : Bool
  a1 : Option Addr
  n1 : Nat
  c1 : Nat
  a2 : Option Addr
  n2 : Nat
  c2 : Nat
def BvOk (w : World) (K : Nat) (q : Rat) (v : BV) : Prop := Bett w 2 K q v.b v.a1 v.n1 v.c1 v.a2 v.n2 v.c2
theorem BvOk.ext {w w' : World} {K : Nat} {q : Rat} {v : BV} (h : BvOk w K q v) (hb : Below w.heap.size w w') : BvOk w' K q v := Bett.ext h hb
theorem BvOk.keepQ {w w' : World} {K : Nat} {q : Rat} {v : BV} {r : Value} (h : BvOk w K q v) (hR : RowQ NW w r) (hg : w.grownBy w' r.ownBlock) : BvOk w' K q v :=
  ⟨h.d1, h.d3, h.b1, h.b5, XR.keepQ h.need hR hg, h.s1, h.s2⟩
structure RT where
  n : ByteArray
  d : ByteArray
end Nm
end Go.Proofs.YtiieckboccbhhaaGreatDoor
namespace Go.Proofs.YtiieckboccbhhaaGreatDoor
open Go.RowKit
namespace Nt
open _root_.Go.Proofs.YtiieckboccbhhaaGreatDoor.Nm (showN showD Fits show_size show_back rF rQ cutS cutS_size longB okM missF cmpQ cmpQ_m1 trimPrefix_at fits_int FPost)
theorem show_parts {n d : ByteArray} (h : rF n d = 0) : ∃ q, Fits q ∧ rQ n d = q ∧ n = showN q ∧ d = showD q := by
 obtain ⟨h1, h2, h3⟩ := show_back h
 exact ⟨rQ n d, h3, rfl, h1.symm, h2.symm⟩
theorem less_is (p q : Rat) (b : Bool) (h : decide (p < q) = b) (hp : Fits p) (hq : Fits q) (w : World) (ht : Tab w) : Calls Tryz.prog 10 #[rtV p, rtV q] w (fun e w' => e = .returned (.bool b) ∧ Below w.heap.size w w') := by subst h; exact mLessQ p q hp hq w ht
theorem fits1 : Fits 1 := fits_int (n := 1) (by decide)
theorem whole1 (w : World) (ht : Tab w) : Calls Tryz.prog 12 #[.int .i64 1] w (RtP w 1) := mWholeQ 1 (by decide) (by decide) w ht
end Nt
end Go.Proofs.YtiieckboccbhhaaGreatDoor
namespace Go.Proofs.YtiieckboccbhhaaGreatDoor
namespace Nm

theorem natCast_nonneg (n : Nat) : (0 : Rat) ≤ ((n : Nat) : Rat) := by
  have := (Rat.natCast_le_natCast (a := 0) (b := n)).2 (Nat.zero_le _)
  exact this
end Nm
end Go.Proofs.YtiieckboccbhhaaGreatDoor
namespace Go.Proofs.YtiieckboccbhhaaGreatDoor
open Go.RowKit
namespace Nm
theorem Ln.small {a b : Nat} {q : Rat} (h : Ln a b q) (ha : a ≤ 5000) (hb : b ≤ 5000) : wlen q.num.natAbs ≤ 6000 ∧ wlen q.den ≤ 6000 := by
  have k1 : 10 ^ a < 10 ^ (a + 1) := Nat.pow_lt_pow_right (by decide) (Nat.lt_succ_self a)
  have k2 : 10 ^ b < 10 ^ (b + 1) := Nat.pow_lt_pow_right (by decide) (Nat.lt_succ_self b)
  have h1 := wlen_dec (Nat.lt_of_le_of_lt h.1 k1)
  have h2 := wlen_dec (Nat.lt_of_le_of_lt h.2 k2)
  omega
def XIf3 (w : World) (f : Int) (v : Value) (q : Rat) : Prop := f = 0 → XR w v q
theorem XIf3.ext {w w' : World} {f : Int} {v : Value} {q : Rat} (h : XIf3 w f v q) (hb : Below w.heap.size w w') : XIf3 w' f v q := fun h0 => (h h0).ext hb
end Nm
end Go.Proofs.YtiieckboccbhhaaGreatDoor
