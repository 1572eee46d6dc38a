/- Whole, Plus, Times, Minus, Over, Less of the references: on texts. Printed by gen_rm.py. What is written is read back; the plain law of RatiosAddUp. Plain: how long the numbers of a calculation can be. No program stands in it. Whole, Plus, Times, Minus, Over, Less of the references: on numbers that are short enough. Rows: blocks of which all cells are known; a whole row read, and written. No program stands in it. append onto a row of the call's own, with a word on all cells of the row's block: no program stands in it. power and capitals of package decide, power of package metric. capitals of package decide. decides of package decide, and the closure that decided hands to walk. The closure that decided hands to walk; walk with it; decided. Pairs of package decide: two rows of the call's own that grow, in an array of two. -/
import Derived.Test.YtilolnjbpokdnaaGreatDoorBq25
import Derived.Test.YtilolnjbpokdnaaGreatDoorBq24
import Derived.Test.YtilolnjbpokdnaaGreatDoorBq19
import Derived.Test.YtilolnjbpokdnaaGreatDoorBq21
import Derived.Test.YtilolnjbpokdnaaGreatDoorBq12
import Derived.Test.YtilolnjbpokdnaaGreatDoorBq03
import Derived.Test.YtilolnjbpokdnaaGreatDoorBq10
import Derived.Test.YtilolnjbpokdnaaGreatDoorBq00
import Derived.Deep.WholeRow
import Derived.Laws.CopyOwn
import Derived.Maps.AppendAt
import Derived.Test.YtilolnjbpokdnaaGreatDoorBq05
import Derived.Test.YtilolnjbpokdnaaGreatDoorBq04
import Derived.Deep.RegionHeld3
import Derived.Deep.Cut
import Derived.Test.YtilolnjbpokdnaaGreatDoorProg
import Derived.Deep.RegionLaw
import Derived.Deep.QuietTactic
import Derived.BigQuiet
import Derived.BigRegion
import Derived.IntWalk
namespace Go.Proofs.YtilolnjbpokdnaaGreatDoor
open Go.RowKit
namespace Nt
open _root_.Go.Proofs.YtilolnjbpokdnaaGreatDoor.Nm (rF rQ sgn outN outD outF AnsPost bF opN opD opF quoN quoD quoF)
/-- a call that returns a ratio -/
def RPost (w : World) (s t : ByteArray) (e : Ending) (w' : World) : Prop := e = .returned (.agg #[.string s, .string t]) ∧ Below w.heap.size w w'
set_option maxRecDepth 100000 in
set_option maxHeartbeats 8000000 in
theorem mWhole_at (n : Int) (h1 : -9223372036854775808 ≤ n) (h2 : n ≤ 9223372036854775807) (w : World) (ht : Tab w) : Calls Tryz.prog 27 #[.int .i64 n] w (RPost w (quoN n 1) (quoD n 1)) := by
 obtain ⟨s, hs⟩ : ∃ s, quoN n 1 = s := ⟨_, rfl⟩
 obtain ⟨t, htt⟩ : ∃ t, quoD n 1 = t := ⟨_, rfl⟩
 have HST := Lib.hid (And.intro hs htt)
 rw [hs, htt]
 clear hs htt
 go_enter Tryz.func27, Tryz.ntmps27
 go_upto_region 1 with (fail)
 refine wp_box1r fun W hsz hbW hC hF => ?_
 have HT := Lib.hid (ht.ext hbW)
 clear hsz ht
 have HX := Lib.hid (And.intro hC (And.intro hF hbW))
 clear hC hF hbW
 go_wp2_with fail
 refine (refRatioOf_at n 1 h1 h2 (by omega) (by omega) W HT.out).mono ?_
 rintro e w1 ⟨rfl, hb1⟩
 rw [HST.out.1, HST.out.2]
 have HX1 := Lib.hid (And.intro (HX.out.1.ext hb1) (And.intro (HX.out.2.1.ext HX.out.1 hb1) (ext_trans HX.out.2.2 hb1)))
 clear HX HT hb1
 go_upto_region 2 with (fail)
 refine wp_box1 fun w2 hsz2 hb2 hR => ?_
 have hC2 := HX1.out.1.ext hb2
 have hF2 := HX1.out.2.1.ext HX1.out.1 hb2
 have hbw2 := ext_trans HX1.out.2.2 hb2
 clear hsz2 HX1 hb2
 generalize w1.heap.size = br at *
 have x0 : w2.cell? ⟨br, 0, none⟩ = some (.string s) := hR.2 0
 have x1 : w2.cell? ⟨br, 1, none⟩ = some (.string t) := hR.2 1
 have r0 : w2.cell? ⟨w.heap.size, 0, none⟩ = some (.string ⟨#[]⟩) := hC2.2 0
 have r1 : w2.cell? ⟨w.heap.size, 1, none⟩ = some (.string ⟨#[]⟩) := hC2.2 1
 have g0 := hF2 0
 have g1 := hF2 1
 have HR := Lib.hid (res2s (.string s) (.string t) hC2 hbw2 (Nat.le_refl _))
 obtain ⟨hbF, z0, z1⟩ := id HR.out
 clear hC2 hF2 hbw2 hR hbF
 go_wp2
 exact bodyPost_ret (v := .agg #[.string s, .string t]) (by simp [results, Tryz.results27, go_sem, z0, z1]) rfl ⟨rfl, HR.out.1⟩
set_option maxRecDepth 100000 in
set_option maxHeartbeats 8000000 in
theorem mPlus_at (n1 d1 n2 d2 : ByteArray) (h1 : n1.size ≤ maxLen) (h2 : d1.size ≤ maxLen) (h3 : n2.size ≤ maxLen) (h4 : d2.size ≤ maxLen) (w : World) (ht : Tab w) : Calls Tryz.prog 50 #[.agg #[.string n1, .string d1], .agg #[.string n2, .string d2]] w (RPost w (opN (· + ·) n1 d1 n2 d2) (opD (· + ·) n1 d1 n2 d2)) := by
 obtain ⟨s, hs⟩ : ∃ s, opN (· + ·) n1 d1 n2 d2 = s := ⟨_, rfl⟩
 obtain ⟨t, htt⟩ : ∃ t, opD (· + ·) n1 d1 n2 d2 = t := ⟨_, rfl⟩
 have HST := Lib.hid (And.intro hs htt)
 rw [hs, htt]
 clear hs htt
 go_enter Tryz.func50, Tryz.ntmps50
 go_upto_region 1 with (fail)
 refine wp_box3r fun W hsz hbW hA hB hC hF => ?_
 have HT := Lib.hid (ht.ext hbW)
 clear hsz ht
 have a0 : W.cell? ⟨w.heap.size, 0, none⟩ = some (.string n1) := hA.2 0
 have a1 : W.cell? ⟨w.heap.size, 1, none⟩ = some (.string d1) := hA.2 1
 have a2 : W.cell? ⟨w.heap.size + 1, 0, none⟩ = some (.string n2) := hB.2 0
 have a3 : W.cell? ⟨w.heap.size + 1, 1, none⟩ = some (.string d2) := hB.2 1
 have HX := Lib.hid (And.intro hC (And.intro hF hbW))
 clear hA hB hC hF hbW
 go_wp2_with fail
 refine (refSum_at n1 d1 n2 d2 h1 h2 h3 h4 W HT.out).mono ?_
 rintro e w1 ⟨rfl, hb1⟩
 rw [HST.out.1, HST.out.2]
 have HX1 := Lib.hid (And.intro (HX.out.1.ext hb1) (And.intro (HX.out.2.1.ext HX.out.1 hb1) (ext_trans HX.out.2.2 hb1)))
 clear a0 a1 a2 a3 HX HT hb1
 go_upto_region 2 with (fail)
 refine wp_box1 fun w2 hsz2 hb2 hR => ?_
 have hC2 := HX1.out.1.ext hb2
 have hF2 := HX1.out.2.1.ext HX1.out.1 hb2
 have hbw2 := ext_trans HX1.out.2.2 hb2
 clear hsz2 HX1 hb2
 generalize w1.heap.size = br at *
 have x0 : w2.cell? ⟨br, 0, none⟩ = some (.string s) := hR.2 0
 have x1 : w2.cell? ⟨br, 1, none⟩ = some (.string t) := hR.2 1
 have r0 : w2.cell? ⟨w.heap.size + 2, 0, none⟩ = some (.string ⟨#[]⟩) := hC2.2 0
 have r1 : w2.cell? ⟨w.heap.size + 2, 1, none⟩ = some (.string ⟨#[]⟩) := hC2.2 1
 have g0 := hF2 0
 have g1 := hF2 1
 have HR := Lib.hid (res2s (.string s) (.string t) hC2 hbw2 (by omega))
 obtain ⟨hbF, z0, z1⟩ := id HR.out
 clear hC2 hF2 hbw2 hR hbF
 go_wp2
 exact bodyPost_ret (v := .agg #[.string s, .string t]) (by simp [results, Tryz.results50, go_sem, z0, z1]) rfl ⟨rfl, HR.out.1⟩
set_option maxRecDepth 100000 in
set_option maxHeartbeats 8000000 in
theorem mTimes_at (n1 d1 n2 d2 : ByteArray) (h1 : n1.size ≤ maxLen) (h2 : d1.size ≤ maxLen) (h3 : n2.size ≤ maxLen) (h4 : d2.size ≤ maxLen) (w : World) (ht : Tab w) : Calls Tryz.prog 51 #[.agg #[.string n1, .string d1], .agg #[.string n2, .string d2]] w (RPost w (opN (· * ·) n1 d1 n2 d2) (opD (· * ·) n1 d1 n2 d2)) := by
 obtain ⟨s, hs⟩ : ∃ s, opN (· * ·) n1 d1 n2 d2 = s := ⟨_, rfl⟩
 obtain ⟨t, htt⟩ : ∃ t, opD (· * ·) n1 d1 n2 d2 = t := ⟨_, rfl⟩
 have HST := Lib.hid (And.intro hs htt)
 rw [hs, htt]
 clear hs htt
 go_enter Tryz.func51, Tryz.ntmps51
 go_upto_region 1 with (fail)
 refine wp_box3r fun W hsz hbW hA hB hC hF => ?_
 have HT := Lib.hid (ht.ext hbW)
 clear hsz ht
 have a0 : W.cell? ⟨w.heap.size, 0, none⟩ = some (.string n1) := hA.2 0
 have a1 : W.cell? ⟨w.heap.size, 1, none⟩ = some (.string d1) := hA.2 1
 have a2 : W.cell? ⟨w.heap.size + 1, 0, none⟩ = some (.string n2) := hB.2 0
 have a3 : W.cell? ⟨w.heap.size + 1, 1, none⟩ = some (.string d2) := hB.2 1
 have HX := Lib.hid (And.intro hC (And.intro hF hbW))
 clear hA hB hC hF hbW
 go_wp2_with fail
 refine (refProduct_at n1 d1 n2 d2 h1 h2 h3 h4 W HT.out).mono ?_
 rintro e w1 ⟨rfl, hb1⟩
 rw [HST.out.1, HST.out.2]
 have HX1 := Lib.hid (And.intro (HX.out.1.ext hb1) (And.intro (HX.out.2.1.ext HX.out.1 hb1) (ext_trans HX.out.2.2 hb1)))
 clear a0 a1 a2 a3 HX HT hb1
 go_upto_region 2 with (fail)
 refine wp_box1 fun w2 hsz2 hb2 hR => ?_
 have hC2 := HX1.out.1.ext hb2
 have hF2 := HX1.out.2.1.ext HX1.out.1 hb2
 have hbw2 := ext_trans HX1.out.2.2 hb2
 clear hsz2 HX1 hb2
 generalize w1.heap.size = br at *
 have x0 : w2.cell? ⟨br, 0, none⟩ = some (.string s) := hR.2 0
 have x1 : w2.cell? ⟨br, 1, none⟩ = some (.string t) := hR.2 1
 have r0 : w2.cell? ⟨w.heap.size + 2, 0, none⟩ = some (.string ⟨#[]⟩) := hC2.2 0
 have r1 : w2.cell? ⟨w.heap.size + 2, 1, none⟩ = some (.string ⟨#[]⟩) := hC2.2 1
 have g0 := hF2 0
 have g1 := hF2 1
 have HR := Lib.hid (res2s (.string s) (.string t) hC2 hbw2 (by omega))
 obtain ⟨hbF, z0, z1⟩ := id HR.out
 clear hC2 hF2 hbw2 hR hbF
 go_wp2
 exact bodyPost_ret (v := .agg #[.string s, .string t]) (by simp [results, Tryz.results51, go_sem, z0, z1]) rfl ⟨rfl, HR.out.1⟩
end Nt
end Go.Proofs.YtilolnjbpokdnaaGreatDoor
namespace Go.Proofs.YtilolnjbpokdnaaGreatDoor
namespace Nm
theorem decS_first (x : Nat) : cutB (decS x) = false := by
  obtain ⟨hd, c, r, h, _⟩ := decS_whl x
  rw [h]
  have := hd c (by rw [h]; simp)
  simp only [cutB]
  apply decide_eq_false
  intro hc
  subst hc
  have h2 : (45 : UInt8).toNat = 45 := rfl
  omega
theorem cut_show (q : Rat) : cutB (showN q).data.toList = decide (q.num < 0) ∧ (cutS (showN q)).data.toList = decS q.num.natAbs := by
  rw [cutS_list]
  unfold showN
  rw [strOf_list]
  unfold numL cutL
  by_cases h : q.num < 0
  · rw [if_pos h]; simp [cutB, h]
  · rw [if_neg h, decS_first]; simp [h]
theorem decS_ne_zero {x : Nat} (h : x ≠ 0) : (decS x == [48]) = false := by
  rw [beq_eq_false_iff_ne]
  intro e
  have := decv_decS x
  rw [e] at this
  exact h this.symm
theorem size_list (s : ByteArray) : s.size = s.data.toList.length := Array.length_toList.symm
theorem back {q : Rat} (h : Fits q) : rF (showN q) (showD q) = 0 ∧ rQ (showN q) (showD q) = q := by
  obtain ⟨h1, h2⟩ := cut_show q
  have hD : (showD q).data.toList = decS q.den := rfl
  have hv1 : decv (cutS (showN q)).data.toList = q.num.natAbs := by rw [h2, decv_decS]
  have hv2 : decv (showD q).data.toList = q.den := by rw [hD, decv_decS]
  constructor
  · unfold rF
    have hb : badR (cutS (showN q)) (showD q) (cutB (showN q).data.toList) = false := by
      unfold badR
      rw [h2, hD, h1, ByteArray.toList_eq, ByteArray.toList_eq, h2, hD, whl_whole (decS_whl _), whl_whole (decS_whl _), decS_ne_zero q.den_nz]
      by_cases hn : q.num < 0
      · rw [decS_ne_zero (by omega)]; simp
      · simp [hn]
    have hl : ¬ largeR (cutS (showN q)) (showD q) := by
      unfold largeR
      rw [size_list, size_list, h2, hD]
      have := h.1
      have := h.2
      omega
    have hg : ¬ (Nat.gcd (decv (cutS (showN q)).data.toList) (decv (showD q).data.toList) ≠ 1) := by
      rw [hv1, hv2]; exact not_not_intro q.reduced
    rw [if_neg (by rw [hb]; simp), if_neg hl, if_neg hg]
  · unfold rQ
    rw [hv1, hv2, h1, sgn_self]
    unfold mkRat
    rw [dif_neg q.den_nz]
    exact Rat.normalize_self q
end Nm
end Go.Proofs.YtilolnjbpokdnaaGreatDoor
namespace Go.Proofs.YtilolnjbpokdnaaGreatDoor
namespace Nm
/-- q is m / D, m not above M, of any sign -/
def FZ (D M : Nat) (q : Rat) : Prop := D ≠ 0 ∧ ∃ m : Int, m.natAbs ≤ M ∧ q = mkRat m D
/-- bounds of the numerator and of the denominator -/
def Bd (A B : Nat) (q : Rat) : Prop := q.num.natAbs ≤ A ∧ q.den ≤ B
theorem FZ.zero {D : Nat} (hD : D ≠ 0) (M : Nat) : FZ D M 0 := ⟨hD, 0, Nat.zero_le _, by simp⟩
theorem FZ.mono {D M M' : Nat} {q : Rat} (h : FZ D M q) (hM : M ≤ M') : FZ D M' q := by
  obtain ⟨hD, m, hm, rfl⟩ := h; exact ⟨hD, m, Nat.le_trans hm hM, rfl⟩
theorem FZ.scale {D M : Nat} {q : Rat} (h : FZ D M q) {c : Nat} (hc : c ≠ 0) : FZ (D * c) (M * c) q := by
  obtain ⟨hD, m, hm, rfl⟩ := h
  refine ⟨Nat.mul_ne_zero hD hc, m * (c : Int), ?_, ?_⟩
  · rw [Int.natAbs_mul, Int.natAbs_natCast]; exact Nat.mul_le_mul_right _ hm
  · rw [Rat.mkRat_mul_right hc]
theorem FZ.add {D M N : Nat} {p q : Rat} (h : FZ D M p) (k : FZ D N q) : FZ D (M + N) (p + q) := by
  obtain ⟨hD, m, hm, rfl⟩ := h
  obtain ⟨_, n, hn, rfl⟩ := k
  refine ⟨hD, m + n, by omega, ?_⟩
  rw [Rat.mkRat_add_mkRat _ _ hD hD, ← Int.add_mul, Rat.mkRat_mul_right hD]
theorem FZ.mul {D E M N : Nat} {p q : Rat} (h : FZ D M p) (k : FZ E N q) : FZ (D * E) (M * N) (p * q) := by
  obtain ⟨hD, m, hm, rfl⟩ := h
  obtain ⟨hE, n, hn, rfl⟩ := k
  refine ⟨Nat.mul_ne_zero hD hE, m * n, ?_, ?_⟩
  · rw [Int.natAbs_mul]; exact Nat.mul_le_mul hm hn
  · rw [Rat.mkRat_mul_mkRat]
theorem FZ.int {z : Int} {M : Nat} (h : z.natAbs ≤ M) : FZ 1 M (z : Rat) := ⟨by omega, z, h, by rw [Rat.mkRat_one]⟩
theorem FZ.nat {n M : Nat} (h : n ≤ M) : FZ 1 M ((n : Nat) : Rat) := ⟨by omega, (n : Int), h, by rw [Rat.mkRat_one, Rat.intCast_natCast]⟩
theorem FZ.bd {D M : Nat} {q : Rat} (h : FZ D M q) : Bd M D q := by
  obtain ⟨hD, m, hm, rfl⟩ := h
  have e : mkRat m D = Rat.normalize (sgn (decide (m < 0)) m.natAbs) D hD := by rw [Rat.normalize_eq_mkRat, sgn_self]
  unfold Bd
  rw [e, norm_abs, norm_den]
  exact ⟨Nat.le_trans (Nat.div_le_self _ _) hm, Nat.div_le_self _ _⟩
theorem Bd.mono {A B A' B' : Nat} {q : Rat} (h : Bd A B q) (h1 : A ≤ A') (h2 : B ≤ B') : Bd A' B' q := ⟨Nat.le_trans h.1 h1, Nat.le_trans h.2 h2⟩
theorem Bd.self (q : Rat) : FZ q.den q.num.natAbs q := ⟨q.den_nz, q.num, Nat.le_refl _, (Rat.mkRat_self q).symm⟩
theorem Bd.int {z : Int} {M : Nat} (h : z.natAbs ≤ M) : Bd M 1 (z : Rat) := (FZ.int h).bd
theorem Bd.nat {n M : Nat} (h : n ≤ M) : Bd M 1 ((n : Nat) : Rat) := (FZ.nat h).bd
theorem Bd.mul {A B A' B' : Nat} {p q : Rat} (h : Bd A B p) (k : Bd A' B' q) : Bd (A * A') (B * B') (p * q) :=
  ((Bd.self p).mul (Bd.self q)).bd.mono (Nat.mul_le_mul h.1 k.1) (Nat.mul_le_mul h.2 k.2)
theorem Bd.add {A B A' B' : Nat} {p q : Rat} (h : Bd A B p) (k : Bd A' B' q) : Bd (A * B' + A' * B) (B * B') (p + q) := by
  have h1 := (Bd.self p).scale (c := q.den) q.den_nz
  have h2 := (Bd.self q).scale (c := p.den) p.den_nz
  rw [Nat.mul_comm q.den p.den] at h2
  exact (h1.add h2).bd.mono (Nat.add_le_add (Nat.mul_le_mul h.1 k.2) (Nat.mul_le_mul k.1 h.2)) (Nat.mul_le_mul h.2 k.2)
theorem Bd.inv {A B : Nat} {q : Rat} (h : Bd A B q) (h0 : q ≠ 0) : Bd B A q⁻¹ := by
  have hn : q.num ≠ 0 := fun e => h0 (Rat.num_eq_zero.1 e)
  obtain ⟨f1, f2, _, _⟩ := inv_facts hn
  exact ⟨by rw [f1]; exact h.2, by rw [f2]; exact h.1⟩
/-- lengths: at most so many digits -/
def Ln (a b : Nat) (q : Rat) : Prop := q.num.natAbs ≤ 10 ^ a ∧ q.den ≤ 10 ^ b
theorem ten_le {a b : Nat} (h : a ≤ b) : 10 ^ a ≤ 10 ^ b := Nat.pow_le_pow_right (by decide) h
theorem ten_two {a b : Nat} : 10 ^ a + 10 ^ b ≤ 10 ^ (max a b + 1) := by
  have h1 : 10 ^ a ≤ 10 ^ max a b := ten_le (Nat.le_max_left _ _)
  have h2 : 10 ^ b ≤ 10 ^ max a b := ten_le (Nat.le_max_right _ _)
  rw [Nat.pow_succ]; omega
theorem Bd.ln {A B a b : Nat} {q : Rat} (h : Bd A B q) (h1 : A ≤ 10 ^ a) (h2 : B ≤ 10 ^ b) : Ln a b q := ⟨Nat.le_trans h.1 h1, Nat.le_trans h.2 h2⟩
theorem FZ.ln {D M a b : Nat} {q : Rat} (h : FZ D M q) (h1 : M ≤ 10 ^ a) (h2 : D ≤ 10 ^ b) : Ln a b q := h.bd.ln h1 h2
theorem Ln.mono {a b a' b' : Nat} {q : Rat} (h : Ln a b q) (h1 : a ≤ a') (h2 : b ≤ b') : Ln a' b' q := ⟨Nat.le_trans h.1 (ten_le h1), Nat.le_trans h.2 (ten_le h2)⟩
theorem Ln.mul {a b a' b' : Nat} {p q : Rat} (h : Ln a b p) (k : Ln a' b' q) : Ln (a + a') (b + b') (p * q) :=
  (Bd.mul h k).ln (by rw [Nat.pow_add]; exact Nat.le_refl _) (by rw [Nat.pow_add]; exact Nat.le_refl _)
theorem Ln.add {a b a' b' : Nat} {p q : Rat} (h : Ln a b p) (k : Ln a' b' q) : Ln (max (a + b') (a' + b) + 1) (b + b') (p + q) :=
  (Bd.add h k).ln (by rw [← Nat.pow_add, ← Nat.pow_add]; exact ten_two) (by rw [Nat.pow_add]; exact Nat.le_refl _)
theorem Ln.inv {a b : Nat} {q : Rat} (h : Ln a b q) (h0 : q ≠ 0) : Ln b a q⁻¹ := Bd.inv h h0
theorem Ln.int {z : Int} {a : Nat} (h : z.natAbs ≤ 10 ^ a) : Ln a 0 (z : Rat) := (Bd.int h).ln (Nat.le_refl _) (Nat.le_refl _)
theorem Ln.nat {n a : Nat} (h : n ≤ 10 ^ a) : Ln a 0 ((n : Nat) : Rat) := (Bd.nat h).ln (Nat.le_refl _) (Nat.le_refl _)
end Nm
end Go.Proofs.YtilolnjbpokdnaaGreatDoor
namespace Go.Proofs.YtilolnjbpokdnaaGreatDoor
open Go.RowKit
namespace Nm
theorem fits_of {k : Nat} {q : Rat} (hk : 1 ≤ k) (hk' : k ≤ 4000) (h1 : q.num.natAbs < 10 ^ k) (h2 : q.den < 10 ^ k) : Fits q := ⟨Nat.le_trans (decS_length h1 hk) hk', Nat.le_trans (decS_length h2 hk) hk'⟩
theorem Ln.fits {a b : Nat} {q : Rat} (h : Ln a b q) (h1 : a < 4000) (h2 : b < 4000) : Fits q :=
  fits_of (k := max a b + 1) (by omega) (by omega) (Nat.lt_of_le_of_lt h.1 (Nat.pow_lt_pow_right (by decide) (by omega))) (Nat.lt_of_le_of_lt h.2 (Nat.pow_lt_pow_right (by decide) (by omega)))
/-- the most digits -/
def DM : Nat := 4000
theorem Fits.ln {q : Rat} (h : Fits q) : Ln DM DM q := ⟨Nat.le_of_lt (lt_of_decS (k := DM) h.1), Nat.le_of_lt (lt_of_decS (k := DM) h.2)⟩
theorem fits_int {n : Int} (h : n.natAbs ≤ 10 ^ 200) : Fits (n : Rat) := (Ln.int h).fits (by decide) (by decide)
theorem i64_ten {n : Int} (h1 : -9223372036854775808 ≤ n) (h2 : n ≤ 9223372036854775807) : n.natAbs ≤ 10 ^ 200 := Nat.le_trans (show n.natAbs ≤ 10 ^ 19 by omega) (ten_le (by decide))
theorem show_size {q : Rat} (h : Fits q) : (showN q).size ≤ maxLen ∧ (showD q).size ≤ maxLen := by
  unfold showN showD numL
  rw [strOf_size, strOf_size]
  have h1 := h.1
  have h2 := h.2
  unfold maxLen
  constructor
  · split
    · simp only [List.length_cons]; omega
    · omega
  · omega
theorem out_fits {q : Rat} (h : Fits q) : outN q = showN q ∧ outD q = showD q ∧ outF q = 0 := by
  unfold outN outD outF
  rw [if_pos h, if_pos h, if_pos h]; exact ⟨rfl, rfl, rfl⟩
theorem bF_show {p q : Rat} (hp : Fits p) (hq : Fits q) : bF (showN p) (showD p) (showN q) (showD q) = 0 := by
  unfold bF
  rw [(back hp).1, if_neg (by simp), (back hq).1]
theorem op_show {op : Rat → Rat → Rat} {p q : Rat} (hp : Fits p) (hq : Fits q) (hs : Fits (op p q)) : opN op (showN p) (showD p) (showN q) (showD q) = showN (op p q) ∧ opD op (showN p) (showD p) (showN q) (showD q) = showD (op p q) := by
  unfold opN opD
  rw [if_pos (bF_show hp hq), if_pos (bF_show hp hq), (back hp).2, (back hq).2, (out_fits hs).1, (out_fits hs).2.1]; exact ⟨rfl, rfl⟩
theorem quoQ_one (n : Int) : quoQ n 1 = (n : Rat) := by
  unfold quoQ
  rw [dif_neg (by decide)]
  have h : (decide (n < 0) != decide ((1 : Int) < 0)) = decide (n < 0) := by simp
  rw [Rat.normalize_eq_mkRat, h, sgn_self]
  exact Rat.mkRat_one n
theorem quo_one {n : Int} (h : n.natAbs ≤ 10 ^ 200) : quoN n 1 = showN (n : Rat) ∧ quoD n 1 = showD (n : Rat) := by
  unfold quoN quoD
  rw [if_neg (by decide), if_neg (by decide), quoQ_one, (out_fits (fits_int h)).1, (out_fits (fits_int h)).2.1]; exact ⟨rfl, rfl⟩
end Nm
namespace Nt
open _root_.Go.Proofs.YtilolnjbpokdnaaGreatDoor.Nm (showN showD Fits show_size op_show quo_one fits_int i64_ten)
/-- a ratio as a value -/
abbrev rtV (q : Rat) : Value := .agg #[.string (showN q), .string (showD q)]
def RtP (w : World) (q : Rat) (e : Ending) (w' : World) : Prop := e = .returned (rtV q) ∧ Below w.heap.size w w'
theorem mWholeQ (n : Int) (h1 : -9223372036854775808 ≤ n) (h2 : n ≤ 9223372036854775807) (w : World) (ht : Tab w) : Calls Tryz.prog 27 #[.int .i64 n] w (RtP w (n : Rat)) := by
  have h := mWhole_at n h1 h2 w ht
  have hb := i64_ten h1 h2
  rw [(quo_one hb).1, (quo_one hb).2] at h
  exact h
theorem mPlusQ (p q : Rat) (hp : Fits p) (hq : Fits q) (hs : Fits (p + q)) (w : World) (ht : Tab w) : Calls Tryz.prog 50 #[rtV p, rtV q] w (RtP w (p + q)) := by
  have h := mPlus_at _ _ _ _ (show_size hp).1 (show_size hp).2 (show_size hq).1 (show_size hq).2 w ht
  rw [(op_show (op := (· + ·)) hp hq hs).1, (op_show (op := (· + ·)) hp hq hs).2] at h
  exact h
theorem mTimesQ (p q : Rat) (hp : Fits p) (hq : Fits q) (hs : Fits (p * q)) (w : World) (ht : Tab w) : Calls Tryz.prog 51 #[rtV p, rtV q] w (RtP w (p * q)) := by
  have h := mTimes_at _ _ _ _ (show_size hp).1 (show_size hp).2 (show_size hq).1 (show_size hq).2 w ht
  rw [(op_show (op := (· * ·)) hp hq hs).1, (op_show (op := (· * ·)) hp hq hs).2] at h
  exact h
end Nt
end Go.Proofs.YtilolnjbpokdnaaGreatDoor
namespace Go.Proofs.YtilolnjbpokdnaaGreatDoor
open Go.RowKit
namespace Nt
/-- the block b is a row of cells A -/
def RH (w : World) (b : Nat) (A : Array Value) (t : TypeId) : Prop := w.heap[b]? = some (.cells A t (0, 0))
theorem RH.lt {w : World} {b : Nat} {A : Array Value} {t : TypeId} (h : RH w b A t) : b < w.heap.size := (Array.getElem?_eq_some_iff.1 h).1
theorem RH.ext {w w' : World} {b : Nat} {A : Array Value} {t : TypeId} (h : RH w b A t) (hb : Below w.heap.size w w') : RH w' b A t := by
  unfold RH; rw [hb.block b h.lt]; exact h
theorem RH.cell {w : World} {b : Nat} {A : Array Value} {t : TypeId} (h : RH w b A t) (j : Nat) : w.cell? ⟨b, j, none⟩ = A[j]? := cell_of_row w b j A t _ h
theorem RH.fre {w : World} {b : Nat} {A : Array Value} {t : TypeId} (h : RH w b A t) (j : Nat) : w.frozen? ⟨b, j, none⟩ = false := by
  unfold RH at h
  simp [World.frozen?, h]
theorem RH.new (w : World) (A : Array Value) (t : TypeId) : RH (w.alloc (.cells A t)) w.heap.size A t := heap_alloc_last w _
theorem RH.row {w : World} {b : Nat} {A : Array Value} {t : TypeId} (h : RH w b A t) (A' : Array Value) : RH (w.setRow b A') b A' t := setRow_heap w b A A' t _ h
theorem RH.row_other {w : World} {b b' : Nat} {A : Array Value} {t : TypeId} (h : RH w b A t) (hne : b ≠ b') (A' : Array Value) : RH (w.setRow b' A') b A t := by
  unfold RH; rw [setRow_other w b' b A' hne]; exact h
theorem RH.set {w : World} {b : Nat} {A : Array Value} {t : TypeId} (h : RH w b A t) (j : Nat) (v : Value) : RH (w.setCell ⟨b, j, none⟩ v) b (A.setIfInBounds j v) t := by
  rw [setCell_eq_setRow w b j A t _ v h]; exact h.row _
theorem RH.set_other {w : World} {b : Nat} {A : Array Value} {t : TypeId} (h : RH w b A t) {p : Addr} (hne : b ≠ p.block) (v : Value) : RH (w.setCell p v) b A t := by
  unfold RH World.setCell
  simp only [Array.getElem?_modify]
  rw [if_neg (fun e => hne e.symm)]; exact h
theorem RH.other {w : World} {b : Nat} {A : Array Value} {t : TypeId} (h : RH w b A t) {p : Addr} (hne : b ≠ p.block) (v : Value) : RH (w.setCell p v) b A t := h.set_other hne v
theorem box_row {w : World} {b b' : Nat} {A : Array Value} (h : Box w b A) (hne : b ≠ b') (A' : Array Value) : Box (w.setRow b' A') b A :=
  ⟨by rw [setRow_size]; exact h.1, fun j => by rw [cell_setRow_other w b' A' _ hne]; exact h.2 j⟩
theorem fre_row {w : World} {b b' : Nat} (h : Fre w b) (hne : b ≠ b') (A' : Array Value) : Fre (w.setRow b' A') b := fun j => by
  have := h j
  unfold World.frozen? at *
  rw [setRow_other w b' b A' hne]; exact this
theorem store_cells {P : Program} {w : World} {g : Nat} {t ty : TypeId} {old A : Array Value} (hg : RH w g old t) (hi : (P.info? ty).map (·.size) = some A.size) (ho : old.size = A.size) (h1 : A.all (·.oneCell') = true) :
    (storeCells ⟨g, 0, none⟩ A.toList 0).run P w = .ok () (w.setRow g A) := by
  have := run_storeVar_row (P := P) w g t ty old A hg hi ho h1
  cases hq : P.info? ty with
  | none => simp [hq] at hi
  | some i =>
    have hs : A.size = i.size := by simp [hq] at hi; omega
    simpa [storeVar, sizeOf, typeInfo, hq, Value.cells, hs] using this
theorem RH.box {w : World} {b : Nat} {A : Array Value} {t : TypeId} (h : RH w b A t) : Box w b A := ⟨h.lt, fun j => h.cell j⟩
end Nt
open Nt (RH RH.cell RH.other)
end Go.Proofs.YtilolnjbpokdnaaGreatDoor
namespace Go.Proofs.YtilolnjbpokdnaaGreatDoor
open Go.RowKit
/-- all cells of the block in which the slice's row lies are such -/
def RowQ (Q : Value → Prop) (w : World) (v : Value) : Prop := ∀ g, v.ownBlock = some g → ∀ (j : Nat) (u : Value), w.cell? ⟨g, j, none⟩ = some u → Q u
theorem RowQ.nil (Q : Value → Prop) (w : World) : RowQ Q w (.slice none 0 0) := fun g e => by cases e
theorem RowQ.ext {Q : Value → Prop} {w w' : World} {base e size n : Nat} {v : Value} {xs : List Value} (h : RowQ Q w v) (ho : w.ownsRow base e size v n xs) (hb : Below w.heap.size w w') : RowQ Q w' v := fun g hg j u hu =>
  h g hg j u ((hb.cell (p := ⟨g, j, none⟩) (ho.lt g hg).2).symm.trans hu)
end Go.Proofs.YtilolnjbpokdnaaGreatDoor
namespace Go.Proofs.YtilolnjbpokdnaaGreatDoor
open Go.RowKit
namespace Nm
theorem wlen_one {n : Nat} (h : n < B) : wlen n ≤ 1 := wlen_le (by rw [Nat.pow_one]; exact h)
theorem wlen_pow {n : Nat} (h : n < B) : ∀ k, wlen (n ^ k) ≤ k + 1
  | 0 => by rw [Nat.pow_zero]; exact wlen_one (by decide)
  | k + 1 => by
    rw [Nat.pow_succ]
    have h1 := wlen_mul (n ^ k) n
    have h2 := wlen_pow h k
    have h3 := wlen_one h
    omega
set_option maxHeartbeats 1000000 in
theorem power_at (n ex : Nat) (hn : n < 4294967296) (ht : ex ≤ 1000000) (w : World) : Calls Tryz.prog 177 #[.int .i64 (n : Int), .int .i64 (ex : Int)] w (NPost w (n ^ ex)) := by
  have hx1 := xnatOf_at 1 (by decide) w
  rw [show ((1 : Nat) : Int) = 1 from rfl] at hx1
  have HX1 := Lib.hid hx1
  clear hx1
  go_enter Tryz.func177, Tryz.ntmps177
  go_wp2_with fail
  refine HX1.out.mono ?_
  rintro e w1 ⟨v, rfl, hv, hb1⟩
  go_wp2
  go_loopw [5, 8] (fun o i wr => ∃ k : Nat, k ≤ ex ∧ i = .int .i64 k ∧ N wr o (n ^ k) ∧ Below w.heap.size w wr) (fun _ i _ => ex - (intOf i).toNat)
  case atStart => exact ⟨0, by omega, rfl, by rw [Nat.pow_zero]; exact hv, hb1⟩
  case round =>
    obtain ⟨k, hk, rfl, ho, hb⟩ := hrel
    clear hv hb1
    by_cases hlt : k < ex
    · go_wp2_with fail
      refine (xnatOf_at n (by omega) _).mono ?_
      rintro e w2 ⟨v2, rfl, h2, hb2⟩
      have h1 := wlen_pow (show n < B from hn) k
      have h3 := wlen_one (show n < B from hn)
      go_wp2_with fail
      refine (times_at (n ^ k) n _ _ _ (ho.ext hb2) h2 (by omega) (by omega)).mono ?_
      rintro e w3 ⟨v3, rfl, h4, hb3⟩
      have hb4 := ext_trans (ext_trans hb hb2) hb3
      clear ho h2 hb2 hb3 hb
      go_wp2
      go_roundw
      case rel => exact ⟨k + 1, by omega, by go_num, by rw [Nat.pow_succ]; exact h4, hb4⟩
      case measure => simp [intOf]; omega
    · have hkt : k = ex := by omega
      subst hkt
      go_wp2
      go_ret
      exact ⟨_, rfl, ho, hb⟩
end Nm
end Go.Proofs.YtilolnjbpokdnaaGreatDoor
namespace Go.Proofs.YtilolnjbpokdnaaGreatDoor
open Go.RowKit
namespace Nm
/-- a bettor as it lies in five cells -/
abbrev betA (d k : Int) (b : Bool) (a1 : Option Addr) (n1 c1 : Nat) (a2 : Option Addr) (n2 c2 : Nat) : Array Value := #[.int .i64 d, .int .i64 k, .bool b, .slice a1 n1 c1, .slice a2 n2 c2]
end Nm
end Go.Proofs.YtilolnjbpokdnaaGreatDoor
namespace Go.Proofs.YtilolnjbpokdnaaGreatDoor
open Go.RowKit
namespace Nm
/-- a bettor that lies in memory -/
structure Bett (w : World) (d : Int) (bets : Nat) (q : Rat) (b : Bool) (a1 : Option Addr) (n1 c1 : Nat) (a2 : Option Addr) (n2 c2 : Nat) : Prop where
  d1 : 1 ≤ d
  d3 : d ≤ 3
  b1 : 1 ≤ bets
  b5 : bets ≤ 5
  need : XR w (.agg #[.bool b, .slice a1 n1 c1, .slice a2 n2 c2]) q
  s1 : wlen q.num.natAbs ≤ 4000
  s2 : wlen q.den ≤ 4000
theorem Bett.ext {w w' : World} {d : Int} {bets : Nat} {q : Rat} {b : Bool} {a1 : Option Addr} {n1 c1 : Nat} {a2 : Option Addr} {n2 c2 : Nat} (h : Bett w d bets q b a1 n1 c1 a2 n2 c2) (hb : Below w.heap.size w w') : Bett w' d bets q b a1 n1 c1 a2 n2 c2 :=
  ⟨h.d1, h.d3, h.b1, h.b5, h.need.ext hb, h.s1, h.s2⟩
end Nm
end Go.Proofs.YtilolnjbpokdnaaGreatDoor
namespace Go.Proofs.YtilolnjbpokdnaaGreatDoor
open Go.RowKit
namespace Nm
/-- what the closure finds: the bettor's box, and the variable's -/
structure CE (w0 w : World) (bB bAt : Nat) (A : Array Value) (z : Int) : Prop where
  base : Below w0.heap.size w0 w
  box : Box w bB A
  at_ : Box w bAt #[.int .i64 z]
  fre : Fre w bAt
  le : w0.heap.size ≤ bAt
  ne : bB ≠ bAt
theorem CE.ext {w0 w w' : World} {bB bAt : Nat} {A : Array Value} {z : Int} (h : CE w0 w bB bAt A z) (hb : Below w.heap.size w w') : CE w0 w' bB bAt A z :=
  ⟨ext_trans h.base hb, h.box.ext hb, h.at_.ext hb, h.fre.ext h.at_ hb, h.le, h.ne⟩
theorem one_box {w : World} {b : Nat} {z y : Value} (h : Box w b #[z]) : Box (w.setCell ⟨b, 0, none⟩ y) b #[y] := by
  refine ⟨by simpa [World.setCell] using h.1, fun j => ?_⟩
  by_cases e : j = 0
  · subst e
    rw [World.cell?_setCell_same _ _ _ (h.2 0)]; rfl
  · rw [World.cell?_setCell_other _ _ _ _ (by intro e'; cases e'; exact e rfl), h.2 j]
    obtain ⟨k, rfl⟩ : ∃ k, j = k + 1 := ⟨j - 1, by omega⟩
    simp
theorem CE.set {w0 w : World} {bB bAt : Nat} {A : Array Value} {z : Int} (h : CE w0 w bB bAt A z) (y : Int) : CE w0 (w.setCell ⟨bAt, 0, none⟩ (.int .i64 y)) bB bAt A y := by
  refine ⟨h.base.setCell h.le _, ?_, one_box h.at_, fun j => by simp; exact h.fre j, h.le, h.ne⟩
  exact ⟨by simpa [World.setCell] using h.box.1, fun j => by rw [World.cell?_setCell_other _ _ _ _ (by intro e; cases e; exact h.ne rfl)]; exact h.box.2 j⟩
end Nm
end Go.Proofs.YtilolnjbpokdnaaGreatDoor
namespace Go.Proofs.YtilolnjbpokdnaaGreatDoor
open Go.RowKit

def bcs (l : List Bool) : List Value := l.map Value.bool
/-- two rows of the call's own, in an array of two -/
structure PW (wr : World) (bW base : Nat) (v0 v1 : Value) (l0 l1 : List Bool) : Prop where
  box : Box wr bW #[v0, v1]
  fre : Fre wr bW
  own0 : wr.ownsRow base 4 1 v0 l0.length (bcs l0)
  own1 : wr.ownsRow base 4 1 v1 l1.length (bcs l1)
  apart : ∀ k, v0.ownBlock = some k → v1.ownBlock = some k → False
  low : bW < base
theorem PW.ext {wr w' : World} {bW base : Nat} {v0 v1 : Value} {l0 l1 : List Bool} (h : PW wr bW base v0 v1 l0 l1) (hb : Below wr.heap.size wr w') : PW w' bW base v0 v1 l0 l1 :=
  ⟨h.box.ext hb, h.fre.ext h.box hb, ownsRow_ext h.own0 hb, ownsRow_ext h.own1 hb, h.apart, h.low⟩
theorem fre_set {w : World} {b : Nat} (h : Fre w b) (p : Addr) (u : Value) : Fre (w.setCell p u) b := fun j => by simp; exact h j
theorem ownsRow_far {w : World} {base e size n : Nat} {v : Value} {xs : List Value} (h : w.ownsRow base e size v n xs) {p : Addr} (hp : p.block < base) (u : Value) : (w.setCell p u).ownsRow base e size v n xs := by
  refine h.kept (row := some p.block) ⟨rfl, rfl, rfl, by simp [World.setCell], fun k hk hne => Below.heap_setCell w p u k (fun e => hne (by rw [e]))⟩ ?_
  cases e : v.ownBlock with
  | none => exact .inl rfl
  | some k => exact .inr (fun e' => by cases e'; have := (h.lt _ e).1; omega)
theorem fre_grown {w w' : World} {b : Nat} {row : Option Nat} (h : Fre w b) (hb : b < w.heap.size) (hg : w.grownBy w' row) (hr : ∀ q, row = some q → q ≠ b) : Fre w' b := fun j => by
  have e := hg.block b hb (fun e => hr b e.symm rfl)
  have h1 := h j
  unfold World.frozen? at h1 ⊢
  simp only [e] at *
  exact h1
theorem box_grown {w w' : World} {b : Nat} {A : Array Value} {row : Option Nat} (hg : w.grownBy w' row) (h : Box w b A) (hr : ∀ q, row = some q → q ≠ b) : Box w' b A :=
  ⟨Nat.lt_of_lt_of_le h.1 hg.size, fun j => (World.cell?_of_block (w := w) (hg.block b h.1 (fun e => hr b e.symm rfl))).trans (h.2 j)⟩
/-- what a push finds in the array of two -/
theorem PW.at {w w' : World} {bW base : Nat} {v0 v1 v : Value} {l0 l1 : List Bool} (h : PW w bW base v0 v1 l0 l1) (hv : v = v0 ∨ v = v1) (hg : w.grownBy w' v.ownBlock) : (∀ j, w'.cell? ⟨bW, j, none⟩ = #[v0, v1][j]?) ∧ ∀ j, w'.frozen? ⟨bW, j, none⟩ = false := by
  have hr : ∀ q, v.ownBlock = some q → q ≠ bW := fun q e => by
    rcases hv with rfl | rfl
    · have := (h.own0.lt q e).1; have := h.low; omega
    · have := (h.own1.lt q e).1; have := h.low; omega
  exact ⟨(box_grown hg h.box hr).2, fre_grown h.fre h.box.1 hg hr⟩
theorem PW.step {w X Y w7 : World} {base : Nat} {v0 v1 v : Value} {l0 l1 : List Bool} (hbx : Below w.heap.size w X) (h : PW X w.heap.size base v0 v1 l0 l1) (hXY : Below X.heap.size X Y) (hv : v = v0 ∨ v = v1) (hg : Y.grownBy w7 v.ownBlock) (j : Nat) (u : Value) :
    Below w.heap.size w (w7.setCell ⟨w.heap.size, j, none⟩ u) ∧ X.heap.size ≤ (w7.setCell ⟨w.heap.size, j, none⟩ u).heap.size := by
  have h1 := ext_trans hbx hXY
  refine ⟨(h1.grown hg h1.size (fun q e => ?_)).setCell (Nat.le_refl _) _, ?_⟩
  · have hl := h.low
    rcases hv with rfl | rfl
    · have := (h.own0.lt q e).1; omega
    · have := (h.own1.lt q e).1; omega
  · have h2 := hXY.size
    have h3 := hg.size
    simp [World.setCell]; omega
end Go.Proofs.YtilolnjbpokdnaaGreatDoor
