/- RatioOf of package value. -/
import Derived.Test.YtmnmepbljegjeaaGreatDoorBa22
import Derived.Test.YtmnmepbljegjeaaGreatDoorBa19
namespace Go.Proofs.YtmnmepbljegjeaaGreatDoor
open Go.RowKit
namespace Nm
theorem res2q {w0 w : World} {b : Nat} {x0 x1 : Value} (u0 u1 : Value) (hC : Box w b #[x0, x1]) (hb : Below w0.heap.size w0 w) (hle : w0.heap.size ≤ b) :
    Below w0.heap.size w0 ((w.setCell ⟨b, 0, none⟩ u0).setCell ⟨b, 1, none⟩ u1) ∧ ((w.setCell ⟨b, 0, none⟩ u0).setCell ⟨b, 1, none⟩ u1).cell? ⟨b, 0, none⟩ = some u0 ∧ ((w.setCell ⟨b, 0, none⟩ u0).setCell ⟨b, 1, none⟩ u1).cell? ⟨b, 1, none⟩ = some u1 := by
  have e0 : (w.setCell ⟨b, 0, none⟩ u0).cell? ⟨b, 0, none⟩ = some u0 := World.cell?_setCell_same _ _ _ (hC.2 0)
  have e1 : (w.setCell ⟨b, 0, none⟩ u0).cell? ⟨b, 1, none⟩ = some x1 := by rw [World.cell?_setCell_other _ _ _ _ (by simp)]; exact hC.2 1
  refine ⟨(hb.setCell hle _).setCell hle _, ?_, World.cell?_setCell_same _ _ _ e1⟩
  rw [World.cell?_setCell_other _ _ _ _ (by simp)]; exact e0
set_option maxRecDepth 100000 in
set_option maxHeartbeats 8000000 in
theorem ratioOf_at (a b : Int) (h1 : -9223372036854775808 ≤ a) (h2 : a ≤ 9223372036854775807) (h3 : -9223372036854775808 ≤ b) (h4 : b ≤ 9223372036854775807) (w : World) : Calls Tryz.prog 13 #[.int .i64 a, .int .i64 b] w (AnsPost w (quoN a b) (quoD a b) (quoF a b)) := by
  go_enter Tryz.func13, Tryz.ntmps13
  go_upto_region 1 with (fail)
  refine wp_box1r fun W hsz hbW hC hF => ?_
  clear hsz
  by_cases hb0 : b = 0
  · have HP : Hid (quoN a b = ⟨#[]⟩ ∧ quoD a b = ⟨#[]⟩ ∧ quoF a b = 14) := by
      have : quoN a b = ⟨#[]⟩ ∧ quoD a b = ⟨#[]⟩ ∧ quoF a b = 14 := by unfold quoN quoD quoF; rw [if_pos hb0, if_pos hb0, if_pos hb0]; exact ⟨rfl, rfl, rfl⟩
      exact this
    have hz : ((b : Int) == 0) = true := by simp [hb0]
    clear hb0
    have HR := Lib.hid (res2q (.string ⟨#[]⟩) (.string ⟨#[]⟩) hC hbW (Nat.le_refl _))
    obtain ⟨hbF, z0, z1⟩ := id HR.out
    have r0 : W.cell? ⟨w.heap.size, 0, none⟩ = some (.string ⟨#[]⟩) := hC.2 0
    have r1 : W.cell? ⟨w.heap.size, 1, none⟩ = some (.string ⟨#[]⟩) := hC.2 1
    have g0 := hF 0
    have g1 := hF 1
    clear hbF
    go_wp2
    refine bodyPost_ret (v := .tuple #[.agg #[.string ⟨#[]⟩, .string ⟨#[]⟩], .int .i64 14]) (by simp [results, Tryz.results13, go_sem, z0, z1]) rfl ⟨?_, HR.out.1⟩
    rw [HP.out.1, HP.out.2.1, HP.out.2.2]
  · have hz : ((b : Int) == 0) = false := by simpa using hb0
    have hbn : b.natAbs ≠ 0 := by omega
    obtain ⟨q, HQ⟩ : ∃ q, Hid (q = Rat.normalize (sgn (decide (a < 0) != decide (b < 0)) a.natAbs) b.natAbs hbn) := ⟨_, rfl⟩
    have HP : Hid (quoN a b = outN q ∧ quoD a b = outD q ∧ quoF a b = outF q) := by
      have e : quoQ a b = q := by rw [HQ.out]; unfold quoQ; rw [dif_neg hb0]
      have : quoN a b = outN q ∧ quoD a b = outD q ∧ quoF a b = outF q := by unfold quoN quoD quoF; rw [if_neg hb0, if_neg hb0, if_neg hb0, e]; exact ⟨rfl, rfl, rfl⟩
      exact this
    have hla := natAbs_small h1 h2
    have hlb := natAbs_small h3 h4
    have hqn : wlen q.num.natAbs ≤ 3 := by rw [HQ.out, norm_abs]; exact Nat.le_trans (wlen_mono (Nat.div_le_self _ _)) hla
    have hqd : wlen q.den ≤ 3 := by rw [HQ.out, norm_den]; exact Nat.le_trans (wlen_mono (Nat.div_le_self _ _)) hlb
    have HL := Lib.hid (And.intro hbn (And.intro hla (And.intro hlb (And.intro hqn hqd))))
    have hna : a.natAbs < 18446744073709551616 := by omega
    have hnb : b.natAbs < 18446744073709551616 := by omega
    have HNN := Lib.hid (And.intro hna hnb)
    clear hb0 hla hlb hqn hqd hna hnb
    go_wp2_with fail
    refine (size_at a h1 h2 W).mono ?_
    rintro e w1 ⟨rfl, rfl⟩
    go_wp2_with fail
    refine (xnatOf_at a.natAbs HNN.out.1 W).mono ?_
    rintro e w1 ⟨v1, rfl, hv1, hb1⟩
    obtain ⟨p1, c1, rfl, _⟩ := hv1.open_
    have HV1 := Lib.hid hv1
    clear hv1
    go_wp2_with fail
    refine (size_at b h3 h4 w1).mono ?_
    rintro e w1' ⟨rfl, rfl⟩
    go_wp2_with fail
    refine (xnatOf_at b.natAbs HNN.out.2 w1).mono ?_
    rintro e w2 ⟨v2, rfl, hv2, hb2⟩
    obtain ⟨p2, c2, rfl, _⟩ := hv2.open_
    have hb12 := ext_trans hb1 hb2
    have hC2 := hC.ext hb12
    have hF2 := hF.ext hC hb12
    have hbw2 := ext_trans hbW hb12
    have HV := Lib.hid (And.intro (HV1.out.ext hb2) hv2)
    have HB := Lib.hid (And.intro hC2 (And.intro hF2 hbw2))
    clear hC hF hbW hb1 hb2 hb12 hC2 hF2 hbw2 hv2 HV1
    go_wp2_with fail
    have HSH := Lib.hid (from_is q (decide (a < 0) != decide (b < 0)) a.natAbs b.natAbs HL.out.1 HQ.out _ _ w2 HV.out.1 HV.out.2 (by have := HL.out.2.1; omega) (by have := HL.out.2.2.1; omega))
    refine HSH.out.mono ?_
    rintro e w3 ⟨vq, rfl, hq, hb3⟩
    have hC3 := HB.out.1.ext hb3
    have hF3 := HB.out.2.1.ext HB.out.1 hb3
    have hbw3 := ext_trans HB.out.2.2 hb3
    have HQX := Lib.hid hq
    have HB3 := Lib.hid (And.intro hC3 (And.intro hF3 hbw3))
    obtain ⟨p5, c5, p6, c6, rfl, _, _⟩ := hq.open_
    clear HB hb3 HSH HV hq hC3 hF3 hbw3
    go_wp2_with fail
    refine (ratio_at q _ w3 HQX.out (by have := HL.out.2.2.2.1; omega) (by have := HL.out.2.2.2.2; omega)).mono ?_
    rintro e w4 ⟨rfl, hb4⟩
    have hC4 := HB3.out.1.ext hb4
    have hF4 := HB3.out.2.1.ext HB3.out.1 hb4
    have hbw4 := ext_trans HB3.out.2.2 hb4
    clear HB3 hb4
    have HR := Lib.hid (res2q (.string (outN q)) (.string (outD q)) hC4 hbw4 (Nat.le_refl _))
    obtain ⟨hbF, z0, z1⟩ := id HR.out
    have r0 : w4.cell? ⟨w.heap.size, 0, none⟩ = some (.string ⟨#[]⟩) := hC4.2 0
    have r1 : w4.cell? ⟨w.heap.size, 1, none⟩ = some (.string ⟨#[]⟩) := hC4.2 1
    have g0 := hF4 0
    have g1 := hF4 1
    clear hbF
    go_wp2
    refine bodyPost_ret (v := .tuple #[.agg #[.string (outN q), .string (outD q)], .int .i64 (outF q)]) (by simp [results, Tryz.results13, go_sem, z0, z1]) rfl ⟨?_, HR.out.1⟩
    rw [HP.out.1, HP.out.2.1, HP.out.2.2]
end Nm
end Go.Proofs.YtmnmepbljegjeaaGreatDoor
