/- both, amountOf, RatioOf of the reference. Inverse of package value. Inverse of the reference. -/
import Derived.Test.YtmnmepbljegjeaaGreatDoorBa22
namespace Go.Proofs.YtmnmepbljegjeaaGreatDoor
open Go.RowKit
namespace Nt
open _root_.Go.Proofs.YtmnmepbljegjeaaGreatDoor.Nm (rF rQ sgn outN outD outF AnsPost bF quoQ quoN quoD quoF)
set_option maxHeartbeats 4000000 in
theorem refBoth_at (n1 d1 n2 d2 : ByteArray) (h1 : n1.size ≤ maxLen) (h2 : d1.size ≤ maxLen) (h3 : n2.size ≤ maxLen) (h4 : d2.size ≤ maxLen) (w : World) (ht : Tab w) : Calls Tryz.prog 83 #[.agg #[.string n1, .string d1], .agg #[.string n2, .string d2]] w (CPost w (bF n1 d1 n2 d2)) := by
  have HBF : Hid (bF n1 d1 n2 d2 = if rF n1 d1 ≠ 0 then rF n1 d1 else rF n2 d2) := Lib.hid rfl
  go_enter Tryz.func83, Tryz.ntmps83
  go_upto_region 1 with (fail)
  refine wp_box2 fun W hsz hbW hA hC => ?_
  have HT := Lib.hid (ht.ext hbW)
  clear hsz ht
  have a0 : W.cell? ⟨w.heap.size, 0, none⟩ = some (.string n1) := hA.2 0
  have a1 : W.cell? ⟨w.heap.size, 1, none⟩ = some (.string d1) := hA.2 1
  clear hA
  go_wp2_with fail
  refine (refCheck_at n1 d1 h1 h2 W HT.out).mono ?_
  rintro e w1 ⟨rfl, hb1⟩
  have hC1 := hC.ext hb1
  have hbw1 := ext_trans hbW hb1
  have HT1 := Lib.hid (HT.out.ext hb1)
  clear a0 a1 hC hbW hb1 HT
  by_cases hf : rF n1 d1 = 0
  · have HR : Hid (bF n1 d1 n2 d2 = rF n2 d2) := by
      have := HBF.out; rw [if_neg (by simp [hf])] at this; exact this
    have hne : (rF n1 d1 != 0) = false := by simp [hf]
    clear HBF hf
    have a0 : w1.cell? ⟨w.heap.size + 1, 0, none⟩ = some (.string n2) := hC1.2 0
    have a1 : w1.cell? ⟨w.heap.size + 1, 1, none⟩ = some (.string d2) := hC1.2 1
    clear hC1
    go_wp2_with fail
    refine (refCheck_at n2 d2 h3 h4 w1 HT1.out).mono ?_
    rintro e w2 ⟨rfl, hb2⟩
    go_wp2
    go_ret
    exact ⟨ret_int HR.out.symm, ext_trans hbw1 hb2⟩
  · have HR : Hid (bF n1 d1 n2 d2 = rF n1 d1) := by
      have := HBF.out; rw [if_pos hf] at this; exact this
    have hne : (rF n1 d1 != 0) = true := by simp [hf]
    clear HBF hf hC1
    go_wp2
    go_ret
    exact ⟨ret_int HR.out.symm, hbw1⟩
set_option maxHeartbeats 4000000 in
theorem amountOf_at (n : Int) (h1 : -9223372036854775808 ≤ n) (h2 : n ≤ 9223372036854775807) (w : World) : Calls Tryz.prog 74 #[.int .i64 n] w (NPost w n.natAbs) := by
  by_cases hn : 0 ≤ n
  · obtain ⟨k, rfl⟩ : ∃ k : Nat, n = (k : Int) := ⟨n.toNat, by omega⟩
    rw [Int.natAbs_natCast]
    go_enter Tryz.func74, Tryz.ntmps74
    go_wp2_with fail
    refine (small_at k (by omega) w).mono ?_
    rintro e w1 ⟨v, rfl, hv, hb⟩
    go_wp2
    go_ret
    exact ⟨_, rfl, hv, hb⟩
  · obtain ⟨k, hk⟩ : ∃ k : Nat, -(n + 1) = (k : Int) := ⟨(-(n + 1)).toNat, by omega⟩
    have HA : Hid (n.natAbs = k + 1) := by
      have : n.natAbs = k + 1 := by omega
      exact this
    have hkk : k ≤ 9223372036854775807 := by omega
    have hn' : n < 0 := by omega
    go_enter Tryz.func74, Tryz.ntmps74
    go_wp2_with fail
    clear hk
    refine (small_at k (by omega) w).mono ?_
    rintro e w1 ⟨v, rfl, hv, hb⟩
    have HV := Lib.hid hv
    clear hv
    go_wp2_with fail
    refine (small_at 1 (by omega) w1).mono ?_
    rintro e w2 ⟨v2, rfl, hv2, hb2⟩
    have hl1 : wlen k ≤ 1000000000 := by
      have h1 : wlen k ≤ 3 := wlen_le (Nat.lt_of_le_of_lt hkk (by decide))
      omega
    have hl2 : wlen 1 ≤ 1000000000 := by
      have h1 : wlen 1 ≤ 1 := wlen_le (by decide)
      omega
    have hv1 := HV.out.ext hb2
    have hbw2 := ext_trans hb hb2
    go_wp2_with fail
    refine (plus_at k 1 _ _ w2 hv1 hv2 hl1 hl2).mono ?_
    rintro e w3 ⟨v3, rfl, hv3, hb3⟩
    rw [← HA.out] at hv3
    go_wp2
    go_ret
    exact ⟨_, rfl, hv3, ext_trans hbw2 hb3⟩
theorem natAbs_wlen {n : Int} (h1 : -9223372036854775808 ≤ n) (h2 : n ≤ 9223372036854775807) : wlen n.natAbs ≤ 3 := wlen_le (Nat.lt_of_le_of_lt (show n.natAbs ≤ 9223372036854775808 by omega) (by decide))
set_option maxRecDepth 100000 in
set_option maxHeartbeats 8000000 in
theorem refRatioOf_at (a b : Int) (h1 : -9223372036854775808 ≤ a) (h2 : a ≤ 9223372036854775807) (h3 : -9223372036854775808 ≤ b) (h4 : b ≤ 9223372036854775807) (w : World) (ht : Tab w) : Calls Tryz.prog 14 #[.int .i64 a, .int .i64 b] w (AnsPost w (quoN a b) (quoD a b) (quoF a b)) := by
  go_enter Tryz.func14, Tryz.ntmps14
  go_upto_region 1 with (fail)
  refine wp_box1r fun W hsz hbW hC hF => ?_
  have HT := Lib.hid (ht.ext hbW)
  clear hsz ht
  by_cases hb0 : b = 0
  · have HP : Hid (quoN a b = ⟨#[]⟩ ∧ quoD a b = ⟨#[]⟩ ∧ quoF a b = 14) := by
      have : quoN a b = ⟨#[]⟩ ∧ quoD a b = ⟨#[]⟩ ∧ quoF a b = 14 := by unfold quoN quoD quoF; rw [if_pos hb0, if_pos hb0, if_pos hb0]; exact ⟨rfl, rfl, rfl⟩
      exact this
    have hz : ((b : Int) == 0) = true := by simp [hb0]
    clear hb0
    have HR := Lib.hid (res2s (.string ⟨#[]⟩) (.string ⟨#[]⟩) hC hbW (Nat.le_refl _))
    obtain ⟨hbF, z0, z1⟩ := id HR.out
    have r0 : W.cell? ⟨w.heap.size, 0, none⟩ = some (.string ⟨#[]⟩) := hC.2 0
    have r1 : W.cell? ⟨w.heap.size, 1, none⟩ = some (.string ⟨#[]⟩) := hC.2 1
    have g0 := hF 0
    have g1 := hF 1
    clear hbF
    go_wp2
    refine bodyPost_ret (v := .tuple #[.agg #[.string ⟨#[]⟩, .string ⟨#[]⟩], .int .i64 14]) (by simp [results, Tryz.results14, go_sem, z0, z1]) rfl ⟨?_, HR.out.1⟩
    rw [HP.out.1, HP.out.2.1, HP.out.2.2]
  · have hz : ((b : Int) == 0) = false := by simpa using hb0
    have hbn : b.natAbs ≠ 0 := by omega
    obtain ⟨q, HQ⟩ : ∃ q, Hid (q = Rat.normalize (sgn (decide (a < 0) != decide (b < 0)) a.natAbs) b.natAbs hbn) := ⟨_, rfl⟩
    have HP : Hid (quoN a b = outN q ∧ quoD a b = outD q ∧ quoF a b = outF q) := by
      have e : quoQ a b = q := by rw [HQ.out]; unfold quoQ; rw [dif_neg hb0]
      have : quoN a b = outN q ∧ quoD a b = outD q ∧ quoF a b = outF q := by unfold quoN quoD quoF; rw [if_neg hb0, if_neg hb0, if_neg hb0, e]; exact ⟨rfl, rfl, rfl⟩
      exact this
    have hla := natAbs_wlen h1 h2
    have hlb := natAbs_wlen h3 h4
    have HL := Lib.hid (And.intro hbn (And.intro hla hlb))
    clear hb0 hla hlb
    obtain ⟨x, hx⟩ : ∃ x, decide (a < 0) = x := ⟨_, rfl⟩
    obtain ⟨y, hy⟩ : ∃ y, decide (b < 0) = y := ⟨_, rfl⟩
    have HXY := Lib.hid (And.intro hx hy)
    clear hx hy
    go_wp2_with fail
    refine (amountOf_at a h1 h2 W).mono ?_
    rintro e w1 ⟨v1, rfl, hv1, hb1⟩
    obtain ⟨p1, c1, rfl, _⟩ := hv1.open_
    have HV1 := Lib.hid hv1
    clear hv1
    go_wp2_with fail
    refine (amountOf_at b h3 h4 w1).mono ?_
    rintro e w2 ⟨v2, rfl, hv2, hb2⟩
    obtain ⟨p2, c2, rfl, _⟩ := hv2.open_
    have hb12 := ext_trans hb1 hb2
    have hC2 := hC.ext hb12
    have hF2 := hF.ext hC hb12
    have hbw2 := ext_trans hbW hb12
    have HT2 := Lib.hid (HT.out.ext hb12)
    have HV := Lib.hid (And.intro (HV1.out.ext hb2) hv2)
    have HB := Lib.hid (And.intro hC2 (And.intro hF2 hbw2))
    clear hC hF hbW hb1 hb2 hb12 hC2 hF2 hbw2 hv2 HV1 HT
    go_wp2_with fail
    have HSH := Lib.hid (shut_at (decide (a < 0) != decide (b < 0)) a.natAbs b.natAbs HL.out.1 _ _ w2 HV.out.1 HV.out.2 (by have := HL.out.2.1; omega) (by have := HL.out.2.2; omega) HT2.out)
    rw [← HQ.out] at HSH
    refine HSH.out.mono ?_
    rintro e w3 ⟨rfl, hb3⟩
    have hC3 := HB.out.1.ext hb3
    have hF3 := HB.out.2.1.ext HB.out.1 hb3
    have hbw3 := ext_trans HB.out.2.2 hb3
    clear HB hb3 HSH HV
    have HR := Lib.hid (res2s (.string (outN q)) (.string (outD q)) hC3 hbw3 (Nat.le_refl _))
    obtain ⟨hbF, z0, z1⟩ := id HR.out
    have r0 : w3.cell? ⟨w.heap.size, 0, none⟩ = some (.string ⟨#[]⟩) := hC3.2 0
    have r1 : w3.cell? ⟨w.heap.size, 1, none⟩ = some (.string ⟨#[]⟩) := hC3.2 1
    have g0 := hF3 0
    have g1 := hF3 1
    clear hbF
    go_wp2
    refine bodyPost_ret (v := .tuple #[.agg #[.string (outN q), .string (outD q)], .int .i64 (outF q)]) (by simp [results, Tryz.results14, go_sem, z0, z1]) rfl ⟨?_, HR.out.1⟩
    rw [HP.out.1, HP.out.2.1, HP.out.2.2]
end Nt
end Go.Proofs.YtmnmepbljegjeaaGreatDoor
namespace Go.Proofs.YtmnmepbljegjeaaGreatDoor
open Go.RowKit
namespace Nm
/-- the inverse of a ratio -/
def iF (n d : ByteArray) : Int := if rF n d ≠ 0 then rF n d else if (rQ n d).num = 0 then 14 else outF (rQ n d)⁻¹
def iN (n d : ByteArray) : ByteArray := if rF n d ≠ 0 then ⟨#[]⟩ else if (rQ n d).num = 0 then ⟨#[]⟩ else outN (rQ n d)⁻¹
def iD (n d : ByteArray) : ByteArray := if rF n d ≠ 0 then ⟨#[]⟩ else if (rQ n d).num = 0 then ⟨#[]⟩ else outD (rQ n d)⁻¹
set_option maxHeartbeats 1000000 in
theorem inverse_at (n d : ByteArray) (h1 : n.size ≤ maxLen) (h2 : d.size ≤ maxLen) (w : World) : Calls Tryz.prog 21 #[.agg #[.string n, .string d]] w (AnsPost w (iN n d) (iD n d) (iF n d)) := by
  have HN : Hid (iN n d = if rF n d ≠ 0 then ⟨#[]⟩ else if (rQ n d).num = 0 then ⟨#[]⟩ else outN (rQ n d)⁻¹) := Lib.hid rfl
  have HDn : Hid (iD n d = if rF n d ≠ 0 then ⟨#[]⟩ else if (rQ n d).num = 0 then ⟨#[]⟩ else outD (rQ n d)⁻¹) := Lib.hid rfl
  have HFn : Hid (iF n d = if rF n d ≠ 0 then rF n d else if (rQ n d).num = 0 then 14 else outF (rQ n d)⁻¹) := Lib.hid rfl
  generalize iN n d = on at *
  generalize iD n d = od at *
  generalize iF n d = of at *
  go_enter Tryz.func21, Tryz.ntmps21
  go_upto_region 1 with (fail)
  refine wp_box2r fun W hsz hbW hA hC hF => ?_
  clear hsz
  obtain ⟨_, oA⟩ := id hA
  go_wp2_with fail
  refine (xratOf_is n d h1 h2 W).mono ?_
  rintro e w1 ⟨b, p1, m1, c1, p2, m2, c2, rfl, hX, hb1⟩
  have hC1 := hC.ext hb1
  have hF1 := hF.ext hC hb1
  have hbw1 := ext_trans hbW hb1
  clear hA hC hF hbW hb1 oA
  have hC2 := hC1.ext (W' := (w1.alloc (Obj.cells #[Value.bool b, Value.slice p1 m1 c1, Value.slice p2 m2 c2] 88))) (by go_grown)
  have hF2 := hF1.ext hC1 (W' := (w1.alloc (Obj.cells #[Value.bool b, Value.slice p1 m1 c1, Value.slice p2 m2 c2] 88))) (by go_grown)
  have hbw2 : Below w.heap.size w (w1.alloc (Obj.cells #[Value.bool b, Value.slice p1 m1 c1, Value.slice p2 m2 c2] 88)) := ext_trans hbw1 (by go_grown)
  have hnw : Box (w1.alloc (Obj.cells #[Value.bool b, Value.slice p1 m1 c1, Value.slice p2 m2 c2] 88)) w1.heap.size #[Value.bool b, Value.slice p1 m1 c1, Value.slice p2 m2 c2] := Box.new _ _ _
  have hX2 : rF n d = 0 → XR (w1.alloc (Obj.cells #[Value.bool b, Value.slice p1 m1 c1, Value.slice p2 m2 c2] 88)) (xv b p1 m1 c1 p2 m2 c2) (rQ n d) := fun h => (hX h).ext (by go_grown)
  have HC2 := Lib.hid hC2
  have HF2 := Lib.hid hF2
  have HBW := Lib.hid hbw2
  have HNW := Lib.hid hnw
  have HX2 := Lib.hid hX2
  clear hC1 hF1 hbw1 hX hC2 hF2 hbw2 hnw hX2
  by_cases hz : rF n d = 0
  · have hne : (rF n d != 0) = false := by simp [hz]
    have HZ := Lib.hid hz
    have hsm := rQ_small hz
    go_upto_region 4 with (fail)
    have hC3 := HC2.out
    have hF3 := HF2.out
    have hbw3 := HBW.out
    have hnw3 := HNW.out
    have hx3 := HX2.out hz
    clear HC2 HF2 HBW HNW HX2
    generalize (w1.alloc (Obj.cells #[Value.bool b, Value.slice p1 m1 c1, Value.slice p2 m2 c2] 88)) = w2 at *
    obtain ⟨_, oX⟩ := id hnw3
    go_wp2_with fail
    refine (zero_at (rQ n d) _ w2 hx3).mono ?_
    rintro e w3 ⟨rfl, hb3⟩
    have hC4 := hC3.ext hb3
    have hF4 := hF3.ext hC3 hb3
    have hbw4 := ext_trans hbw3 hb3
    have hnw4 := hnw3.ext hb3
    have hx4 := hx3.ext hb3
    clear hC3 hF3 hbw3 hnw3 hx3 oX hb3
    by_cases h0 : (rQ n d).num = 0
    · have HN2 : Hid (on = ⟨#[]⟩) := by have := HN.out; rw [if_neg (by simpa using hz), if_pos h0] at this; exact this
      have HD2 : Hid (od = ⟨#[]⟩) := by have := HDn.out; rw [if_neg (by simpa using hz), if_pos h0] at this; exact this
      have HF2 : Hid (of = 14) := by have := HFn.out; rw [if_neg (by simpa using hz), if_pos h0] at this; exact this
      have hd0 : decide ((rQ n d).num = 0) = true := decide_eq_true h0
      rw [hd0]
      clear h0 hz hd0 HN HDn HFn
      have r0 : w3.cell? ⟨w.heap.size + 1, 0, none⟩ = some (.string ⟨#[]⟩) := hC4.2 0
      have r1 : w3.cell? ⟨w.heap.size + 1, 1, none⟩ = some (.string ⟨#[]⟩) := hC4.2 1
      have g0 := hF4 0
      have g1 := hF4 1
      have hq := two_set (.string ⟨#[]⟩) (.string ⟨#[]⟩) r0 r1
      have hbF : Below w.heap.size w ((w3.setCell ⟨w.heap.size + 1, 0, none⟩ (.string ⟨#[]⟩)).setCell ⟨w.heap.size + 1, 1, none⟩ (.string ⟨#[]⟩)) := (hbw4.setCell (by simp) _).setCell (by simp) _
      go_wp2
      exact bodyPost_ret (v := .tuple #[.agg #[.string ⟨#[]⟩, .string ⟨#[]⟩], .int .i64 14]) (by simp [results, Tryz.results21, go_sem, hq.1, hq.2]) rfl ⟨by rw [HN2.out, HD2.out, HF2.out], hbF⟩
    · have HN2 : Hid (on = outN (rQ n d)⁻¹) := by have := HN.out; rw [if_neg (by simpa using hz), if_neg h0] at this; exact this
      have HD2 : Hid (od = outD (rQ n d)⁻¹) := by have := HDn.out; rw [if_neg (by simpa using hz), if_neg h0] at this; exact this
      have HF2 : Hid (of = outF (rQ n d)⁻¹) := by have := HFn.out; rw [if_neg (by simpa using hz), if_neg h0] at this; exact this
      have hd0 : decide ((rQ n d).num = 0) = false := decide_eq_false h0
      have HIV := Lib.hid (inv_facts h0)
      have HH0 := Lib.hid h0
      rw [hd0]
      clear h0 hz hd0 HN HDn HFn
      have HT := Lib.hid (turned_at (rQ n d) _ w3 hx4 HH0.out)
      generalize (rQ n d)⁻¹ = Z at *
      obtain ⟨_, oX⟩ := id hnw4
      go_wp2_with fail
      refine HT.out.mono ?_
      rintro e w5 ⟨vz, rfl, hz5, hb5⟩
      have hC5 := hC4.ext hb5
      have hF5 := hF4.ext hC4 hb5
      have hbw5 := ext_trans hbw4 hb5
      have HZ5 := Lib.hid hz5
      obtain ⟨e1, e2, e3, e4, rfl, _, _⟩ := hz5.open_
      clear hC4 hF4 hbw4 hnw4 hx4 oX hb5 hz5
      go_wp2_with fail
      refine (ratio_at _ _ _ HZ5.out (by rw [HIV.out.1]; have := hsm.2; omega) (by rw [HIV.out.2.1]; have := hsm.1; omega)).mono ?_
      rintro e w6 ⟨rfl, hb6⟩
      rw [← HN2.out, ← HD2.out, ← HF2.out]
      have hC6 := hC5.ext hb6
      have hF6 := hF5.ext hC5 hb6
      have hbw6 := ext_trans hbw5 hb6
      clear hC5 hF5 hbw5 hb6 HZ5 HN2 HD2 HF2
      have r0 : w6.cell? ⟨w.heap.size + 1, 0, none⟩ = some (.string ⟨#[]⟩) := hC6.2 0
      have r1 : w6.cell? ⟨w.heap.size + 1, 1, none⟩ = some (.string ⟨#[]⟩) := hC6.2 1
      have g0 := hF6 0
      have g1 := hF6 1
      have hq := two_set (.string on) (.string od) r0 r1
      have hbF : Below w.heap.size w ((w6.setCell ⟨w.heap.size + 1, 0, none⟩ (.string on)).setCell ⟨w.heap.size + 1, 1, none⟩ (.string od)) := (hbw6.setCell (by simp) _).setCell (by simp) _
      go_wp2
      exact bodyPost_ret (v := .tuple #[.agg #[.string on, .string od], .int .i64 of]) (by simp [results, Tryz.results21, go_sem, hq.1, hq.2]) rfl ⟨rfl, hbF⟩
  · have hne : (rF n d != 0) = true := by simp [hz]
    have HN2 : Hid (on = ⟨#[]⟩) := by have := HN.out; rw [if_pos hz] at this; exact this
    have HD2 : Hid (od = ⟨#[]⟩) := by have := HDn.out; rw [if_pos hz] at this; exact this
    have HF3 : Hid (of = rF n d) := by have := HFn.out; rw [if_pos hz] at this; exact this
    clear hz HN HDn HFn
    go_upto_region 3 with (fail)
    have hC3 := HC2.out
    have hF3 := HF2.out
    have hbw3 := HBW.out
    clear HC2 HF2 HBW HNW HX2
    generalize (w1.alloc (Obj.cells #[Value.bool b, Value.slice p1 m1 c1, Value.slice p2 m2 c2] 88)) = w2 at *
    have r0 : w2.cell? ⟨w.heap.size + 1, 0, none⟩ = some (.string ⟨#[]⟩) := hC3.2 0
    have r1 : w2.cell? ⟨w.heap.size + 1, 1, none⟩ = some (.string ⟨#[]⟩) := hC3.2 1
    have g0 := hF3 0
    have g1 := hF3 1
    have hq := two_set (.string ⟨#[]⟩) (.string ⟨#[]⟩) r0 r1
    have hbF : Below w.heap.size w ((w2.setCell ⟨w.heap.size + 1, 0, none⟩ (.string ⟨#[]⟩)).setCell ⟨w.heap.size + 1, 1, none⟩ (.string ⟨#[]⟩)) := (hbw3.setCell (by simp) _).setCell (by simp) _
    go_wp2
    exact bodyPost_ret (v := .tuple #[.agg #[.string ⟨#[]⟩, .string ⟨#[]⟩], .int .i64 (rF n d)]) (by simp [results, Tryz.results21, go_sem, hq.1, hq.2]) rfl ⟨by rw [HN2.out, HD2.out, HF3.out], hbF⟩
end Nm
end Go.Proofs.YtmnmepbljegjeaaGreatDoor
namespace Go.Proofs.YtmnmepbljegjeaaGreatDoor
open Go.RowKit
namespace Nt
open _root_.Go.Proofs.YtmnmepbljegjeaaGreatDoor.Nm (rF rQ sgn outN outD outF AnsPost bF iN iD iF rQ_facts inv_facts sgn_self cutS cutB)
theorem small_digs9 {n d : ByteArray} (h : rF n d = 0) : wlen (rQ n d).num.natAbs ≤ 4000 ∧ wlen (rQ n d).den ≤ 4000 := by
  obtain ⟨_, h2, h3, h4, h5, h6, h7, _⟩ := rQ_facts h
  have l1 : (cutS n).data.toList.length = (cutS n).size := Array.length_toList
  have l2 : d.data.toList.length = d.size := Array.length_toList
  refine ⟨?_, ?_⟩
  · rw [h2, Nm.sgn_natAbs]; exact wlen_dec9 (whole_digs h4) (by omega)
  · rw [h3]; exact wlen_dec9 (whole_digs h5) (by omega)
theorem open_is (n d : ByteArray) (hn : n.size ≤ maxLen) (h : rF n d = 0) (w : World) : Calls Tryz.prog 84 #[.agg #[.string n, .string d]] w (FrPost w (decide ((rQ n d).num < 0)) (rQ n d).num.natAbs (rQ n d).den) := by
  obtain ⟨_, h2, h3, h4, h5, h6, h7, h8⟩ := rQ_facts h
  have := open_at n d hn (whole_digs h4) (whole_digs h5) h6 h7 w
  rw [h8, h2, h3, Nm.sgn_natAbs]
  exact this
theorem inv_norm {q : Rat} (h : q.num.natAbs ≠ 0) : Rat.normalize (sgn (decide (q.num < 0)) q.den) q.num.natAbs h = q⁻¹ := by
  have h0 : q.num ≠ 0 := by omega
  obtain ⟨f1, f2, f3, f4⟩ := inv_facts h0
  have e : sgn (decide (q.num < 0)) q.den = q⁻¹.num := by
    have := sgn_self q⁻¹.num
    rw [f1, f3] at this
    exact this
  have hr := Rat.normalize_self q⁻¹
  have hd : q⁻¹.den ≠ 0 := q⁻¹.den_nz
  rw [← hr]
  simp only [e, f2]
set_option maxRecDepth 100000 in
set_option maxHeartbeats 8000000 in
theorem refInverse_at (n d : ByteArray) (h1 : n.size ≤ maxLen) (h2 : d.size ≤ maxLen) (w : World) (ht : Tab w) : Calls Tryz.prog 22 #[.agg #[.string n, .string d]] w (AnsPost w (iN n d) (iD n d) (iF n d)) := by
  have HN : Hid (iN n d = if rF n d ≠ 0 then ⟨#[]⟩ else if (rQ n d).num = 0 then ⟨#[]⟩ else outN (rQ n d)⁻¹) := Lib.hid rfl
  have HDn : Hid (iD n d = if rF n d ≠ 0 then ⟨#[]⟩ else if (rQ n d).num = 0 then ⟨#[]⟩ else outD (rQ n d)⁻¹) := Lib.hid rfl
  have HFn : Hid (iF n d = if rF n d ≠ 0 then rF n d else if (rQ n d).num = 0 then 14 else outF (rQ n d)⁻¹) := Lib.hid rfl
  generalize iN n d = on at *
  generalize iD n d = od at *
  generalize iF n d = of at *
  go_enter Tryz.func22, Tryz.ntmps22
  go_upto_region 1 with (fail)
  refine wp_box2r fun W hsz hbW hA hC hF => ?_
  have HT := Lib.hid (ht.ext hbW)
  clear hsz ht
  have a0 : W.cell? ⟨w.heap.size, 0, none⟩ = some (.string n) := hA.2 0
  have a1 : W.cell? ⟨w.heap.size, 1, none⟩ = some (.string d) := hA.2 1
  go_wp2_with fail
  refine (refCheck_at n d h1 h2 W HT.out).mono ?_
  rintro e w1 ⟨rfl, hb1⟩
  have hA1 := hA.ext hb1
  have hC1 := hC.ext hb1
  have hF1 := hF.ext hC hb1
  have hbw1 := ext_trans hbW hb1
  have HT1 := Lib.hid (HT.out.ext hb1)
  clear hA hC hF hbW hb1 a0 a1 HT
  have a0 : w1.cell? ⟨w.heap.size, 0, none⟩ = some (.string n) := hA1.2 0
  have a1 : w1.cell? ⟨w.heap.size, 1, none⟩ = some (.string d) := hA1.2 1
  by_cases hz : rF n d = 0
  · have hne : (rF n d != 0) = false := by simp [hz]
    have hsm := small_digs9 hz
    have HO := Lib.hid (open_is n d h1 hz w1)
    have HB := Lib.hid (And.intro hC1 (And.intro hF1 hbw1))
    clear hA1 hC1 hF1 hbw1
    go_wp2_with fail
    refine HO.out.mono ?_
    rintro e w2 ⟨v1, v2, rfl, hv1, hv2, hb2⟩
    obtain ⟨p1, c1, rfl, _⟩ := hv1.open_
    obtain ⟨p2, c2, rfl, _⟩ := hv2.open_
    have hC2 := HB.out.1.ext hb2
    have hF2 := HB.out.2.1.ext HB.out.1 hb2
    have hbw2 := ext_trans HB.out.2.2 hb2
    have HT2 := Lib.hid (HT1.out.ext hb2)
    have HV := Lib.hid (And.intro hv1 hv2)
    have HB2 := Lib.hid (And.intro hC2 (And.intro hF2 hbw2))
    clear a0 a1 HO HB hv1 hv2 hb2 hC2 hF2 hbw2 HT1
    go_upto_region 5 with (fail)
    refine wp_box1 fun w3 hsz3 hb3 hX3 => ?_
    clear hsz3
    have hC3 := HB2.out.1.ext hb3
    have hF3 := HB2.out.2.1.ext HB2.out.1 hb3
    have hbw3 := ext_trans HB2.out.2.2 hb3
    have HT3 := Lib.hid (HT2.out.ext hb3)
    have HV3 := Lib.hid (And.intro (HV.out.1.ext hb3) (HV.out.2.ext hb3))
    have HB3 := Lib.hid (And.intro hC3 (And.intro hF3 hbw3))
    have x0 : w3.cell? ⟨w2.heap.size, 0, none⟩ = some (.bool (decide ((rQ n d).num < 0))) := hX3.2 0
    have x1 : w3.cell? ⟨w2.heap.size, 1, none⟩ = some (.slice p1 (digs (rQ n d).num.natAbs).length c1) := hX3.2 1
    have x2 : w3.cell? ⟨w2.heap.size, 2, none⟩ = some (.slice p2 (digs (rQ n d).den).length c2) := hX3.2 2
    have HZ : Hid (((((digs (rQ n d).num.natAbs).length : Nat) : Int) == 0) = decide ((rQ n d).num = 0)) := by
      have : ((((digs (rQ n d).num.natAbs).length : Nat) : Int) == 0) = decide ((rQ n d).num = 0) := by
        rw [Bool.eq_iff_iff, beq_iff_eq, decide_eq_true_eq]
        have h := @wlen_eq_zero (rQ n d).num.natAbs
        unfold wlen at h
        omega
      exact this
    clear HB2 HV HT2 hb3 hC3 hF3 hbw3 hX3
    by_cases h0 : (rQ n d).num = 0
    · have HN2 : Hid (on = ⟨#[]⟩) := by have := HN.out; rw [if_neg (by simpa using hz), if_pos h0] at this; exact this
      have HD2 : Hid (od = ⟨#[]⟩) := by have := HDn.out; rw [if_neg (by simpa using hz), if_pos h0] at this; exact this
      have HF2 : Hid (of = 14) := by have := HFn.out; rw [if_neg (by simpa using hz), if_pos h0] at this; exact this
      have hz0 : ((((digs (rQ n d).num.natAbs).length : Nat) : Int) == 0) = true := HZ.out.trans (decide_eq_true h0)
      clear h0 HN HDn HFn hz hsm HZ
      have HR := Lib.hid (res2s (.string ⟨#[]⟩) (.string ⟨#[]⟩) HB3.out.1 HB3.out.2.2 (by omega))
      obtain ⟨hbF, z0, z1⟩ := id HR.out
      have r0 : w3.cell? ⟨w.heap.size + 1, 0, none⟩ = some (.string ⟨#[]⟩) := HB3.out.1.2 0
      have r1 : w3.cell? ⟨w.heap.size + 1, 1, none⟩ = some (.string ⟨#[]⟩) := HB3.out.1.2 1
      have g0 := HB3.out.2.1 0
      have g1 := HB3.out.2.1 1
      clear hbF
      go_wp2
      exact bodyPost_ret (v := .tuple #[.agg #[.string ⟨#[]⟩, .string ⟨#[]⟩], .int .i64 14]) (by simp [results, Tryz.results22, go_sem, z0, z1]) rfl ⟨by rw [HN2.out, HD2.out, HF2.out], HR.out.1⟩
    · have HN2 : Hid (on = outN (rQ n d)⁻¹) := by have := HN.out; rw [if_neg (by simpa using hz), if_neg h0] at this; exact this
      have HD2 : Hid (od = outD (rQ n d)⁻¹) := by have := HDn.out; rw [if_neg (by simpa using hz), if_neg h0] at this; exact this
      have HF2 : Hid (of = outF (rQ n d)⁻¹) := by have := HFn.out; rw [if_neg (by simpa using hz), if_neg h0] at this; exact this
      have hz0 : ((((digs (rQ n d).num.natAbs).length : Nat) : Int) == 0) = false := HZ.out.trans (decide_eq_false h0)
      have hnn : (rQ n d).num.natAbs ≠ 0 := by omega
      have HS := Lib.hid (shut_at (decide ((rQ n d).num < 0)) (rQ n d).den (rQ n d).num.natAbs hnn _ _ w3 HV3.out.2 HV3.out.1 (by omega) (by omega) HT3.out)
      rw [inv_norm hnn, ← HN2.out, ← HD2.out, ← HF2.out] at HS
      clear h0 hnn HN HDn HFn hz hsm HZ HN2 HD2 HF2 HT3 HV3
      go_wp2_with fail
      refine HS.out.mono ?_
      rintro e w4 ⟨rfl, hb4⟩
      have hC4 := HB3.out.1.ext hb4
      have hF4 := HB3.out.2.1.ext HB3.out.1 hb4
      have hbw4 := ext_trans HB3.out.2.2 hb4
      clear x0 x1 x2 HS HB3 hb4
      have HR := Lib.hid (res2s (.string on) (.string od) hC4 hbw4 (by omega))
      obtain ⟨hbF, z0, z1⟩ := id HR.out
      have r0 : w4.cell? ⟨w.heap.size + 1, 0, none⟩ = some (.string ⟨#[]⟩) := hC4.2 0
      have r1 : w4.cell? ⟨w.heap.size + 1, 1, none⟩ = some (.string ⟨#[]⟩) := hC4.2 1
      have g0 := hF4 0
      have g1 := hF4 1
      clear hbF
      go_wp2
      exact bodyPost_ret (v := .tuple #[.agg #[.string on, .string od], .int .i64 of]) (by simp [results, Tryz.results22, go_sem, z0, z1]) rfl ⟨rfl, HR.out.1⟩
  · have hne : (rF n d != 0) = true := by simp [hz]
    have HN2 : Hid (on = ⟨#[]⟩) := by have := HN.out; rw [if_pos hz] at this; exact this
    have HD2 : Hid (od = ⟨#[]⟩) := by have := HDn.out; rw [if_pos hz] at this; exact this
    have HF3 : Hid (of = rF n d) := by have := HFn.out; rw [if_pos hz] at this; exact this
    clear hz HN HDn HFn
    have HR := Lib.hid (res2s (.string ⟨#[]⟩) (.string ⟨#[]⟩) hC1 hbw1 (by omega))
    obtain ⟨hbF, z0, z1⟩ := id HR.out
    have r0 : w1.cell? ⟨w.heap.size + 1, 0, none⟩ = some (.string ⟨#[]⟩) := hC1.2 0
    have r1 : w1.cell? ⟨w.heap.size + 1, 1, none⟩ = some (.string ⟨#[]⟩) := hC1.2 1
    have g0 := hF1 0
    have g1 := hF1 1
    clear hbF hA1 hC1 hF1 hbw1
    go_wp2
    exact bodyPost_ret (v := .tuple #[.agg #[.string ⟨#[]⟩, .string ⟨#[]⟩], .int .i64 (rF n d)]) (by simp [results, Tryz.results22, go_sem, z0, z1]) rfl ⟨by rw [HN2.out, HD2.out, HF3.out], HR.out.1⟩
end Nt
end Go.Proofs.YtmnmepbljegjeaaGreatDoor
