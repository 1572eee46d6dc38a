/- Plus of package value. slices.Reverse at bytes. Decimal numerals: plain mathematics. The numeral of a number: plain mathematics. Digits of package value: the numeral of a number. Ratio of package value: an exact number as texts. Plain: fractions that are not in lowest terms: a sign, a numerator and a denominator. No program stands in it. -/
import Derived.Test.YtiieckboccbhhaaGreatDoorB908
import Derived.Test.YtiieckboccbhhaaGreatDoorProg
import Derived.Test.YtiieckboccbhhaaGreatDoorB900
import Derived.Test.YtiieckboccbhhaaGreatDoorB902
import Derived.Test.YtiieckboccbhhaaGreatDoorB905
import Derived.Laws.BytesString
import Derived.Test.YtiieckboccbhhaaGreatDoorB904
namespace Go.Proofs.YtiieckboccbhhaaGreatDoor
open Go.RowKit
namespace Nm
set_option maxHeartbeats 16000000 in
theorem xplus_at (x y : Rat) (v u : Value) (w : World) (hx : XR w v x) (hy : XR w u y) (l1 : wlen x.num.natAbs ≤ 100000000) (l2 : wlen x.den ≤ 100000000) (l3 : wlen y.num.natAbs ≤ 100000000) (l4 : wlen y.den ≤ 100000000) : Calls Tryz.prog 60 #[v, u] w (XPost w (x + y)) := by
  obtain ⟨a1, c1, a2, c2, rfl, h1, h2⟩ := hx.open_
  obtain ⟨a3, c3, a4, c4, rfl, h3, h4⟩ := hy.open_
  have H1 := Lib.hid h1
  have H2 := Lib.hid h2
  have H3 := Lib.hid h3
  have H4 := Lib.hid h4
  have HQS : Hid (decide (x.num < 0) = decide (y.num < 0) → x + y = Rat.normalize (sgn (decide (x.num < 0)) (x.num.natAbs * y.den + y.num.natAbs * x.den)) (x.den * y.den) (den_pos x y)) := by
    have : decide (x.num < 0) = decide (y.num < 0) → x + y = Rat.normalize (sgn (decide (x.num < 0)) (x.num.natAbs * y.den + y.num.natAbs * x.den)) (x.den * y.den) (den_pos x y) := fun h => by rw [Rat.add_def]; exact normalize_congr _ _ (add_same h)
    exact this
  have HQL : Hid (decide (x.num < 0) ≠ decide (y.num < 0) → x.num.natAbs * y.den < y.num.natAbs * x.den → x + y = Rat.normalize (sgn (decide (y.num < 0)) (y.num.natAbs * x.den - x.num.natAbs * y.den)) (x.den * y.den) (den_pos x y)) := by
    have : decide (x.num < 0) ≠ decide (y.num < 0) → x.num.natAbs * y.den < y.num.natAbs * x.den → x + y = Rat.normalize (sgn (decide (y.num < 0)) (y.num.natAbs * x.den - x.num.natAbs * y.den)) (x.den * y.den) (den_pos x y) := fun h hl => by rw [Rat.add_def]; exact normalize_congr _ _ (add_less h hl)
    exact this
  have HQM : Hid (decide (x.num < 0) ≠ decide (y.num < 0) → y.num.natAbs * x.den ≤ x.num.natAbs * y.den → x + y = Rat.normalize (sgn (decide (x.num < 0)) (x.num.natAbs * y.den - y.num.natAbs * x.den)) (x.den * y.den) (den_pos x y) ∧ 0 < x.num.natAbs * y.den) := by
    have : decide (x.num < 0) ≠ decide (y.num < 0) → y.num.natAbs * x.den ≤ x.num.natAbs * y.den → x + y = Rat.normalize (sgn (decide (x.num < 0)) (x.num.natAbs * y.den - y.num.natAbs * x.den)) (x.den * y.den) (den_pos x y) ∧ 0 < x.num.natAbs * y.den := fun h hl => ⟨by rw [Rat.add_def]; exact normalize_congr _ _ (add_more h hl), more_pos h hl⟩
    exact this
  have HW1 := Lib.hid (Nat.le_trans (wlen_mul x.num.natAbs y.den) (by omega : _ ≤ 200000000))
  have HW2 := Lib.hid (Nat.le_trans (wlen_mul y.num.natAbs x.den) (by omega : _ ≤ 200000000))
  have HW3 := Lib.hid (Nat.le_trans (wlen_mul x.den y.den) (by omega : _ ≤ 1000000000))
  clear h1 h2 hx h3 h4 hy
  generalize x + y = Z at *
  generalize decide (x.num < 0) = bx at *
  generalize decide (y.num < 0) = by' at *
  have tok1 : True := trivial
  go_enter Tryz.func60, Tryz.ntmps60
  go_upto_region 1 with (fail)
  refine wp_box3r fun W hsz hbW hA hB hC hF => ?_
  go_region_held3 (S2R W (w.heap.size + 2) w.heap.size #[Value.bool bx, Value.slice a1 (digs x.num.natAbs).length c1, Value.slice a2 (digs x.den).length c2] (w.heap.size + 1) #[Value.bool by', Value.slice a3 (digs y.num.natAbs).length c3, Value.slice a4 (digs y.den).length c4]) (first | exact S2R.start hA hB | exact S2R.ext (by with_reducible assumption) (by with_reducible assumption) (by omega) hA hB | exact S2R.set (S2R.set (S2R.set (by assumption) (by simp) (by omega) (by omega)) (by simp) (by omega) (by omega)) (by simp) (by omega) (by omega) | assumption) (first | (have _t := tok1; go_at_call 42; refine (times_at x.num.natAbs y.den _ _ _ (H1.out.ext (S2R.low (by assumption) hbW (by omega))) (H4.out.ext (S2R.low (by assumption) hbW (by omega))) (by omega) (by omega)).mono ?_; rintro e w2 ⟨va, rfl, hva, hb2⟩; have hc2 := Lib.hid (ext_trans (Below.refl W.heap.size W).drew hb2); have HVA := Lib.hid hva; clear tok1 hva) | (go_at_call 42; refine (times_at y.num.natAbs x.den _ _ _ (H3.out.ext (S2R.low (by assumption) hbW (by omega))) (H2.out.ext (S2R.low (by assumption) hbW (by omega))) (by omega) (by omega)).mono ?_; rintro e w3 ⟨vb, rfl, hvb, hb3⟩; have hc3 := Lib.hid (ext_trans hc2.out hb3); have HVA3 := Lib.hid (HVA.out.ext hb3); have HVB := Lib.hid hvb; clear hvb))
  have hA3 := hA.ext hc3.out
  have hB3 := hB.ext hc3.out
  have hC3 := hC.ext hc3.out
  have hF3 := hF.ext hC hc3.out
  have hbw3 := ext_trans hbW hc3.out
  clear hA hB hC hF hc2 hc3 hbW HVA hb2 hb3
  obtain ⟨_, oA⟩ := id hA3
  obtain ⟨_, oB⟩ := id hB3
  go_wp2_with fail
  refine (times_at x.den y.den _ _ _ (H2.out.ext hbw3) (H4.out.ext hbw3) (by omega) (by omega)).mono ?_
  rintro e w4 ⟨vd, rfl, hvd, hb4⟩
  have HVD := Lib.hid hvd
  have HVA4 := Lib.hid (HVA3.out.ext hb4)
  have HVB4 := Lib.hid (HVB.out.ext hb4)
  have hA4 := hA3.ext hb4
  have hB4 := hB3.ext hb4
  have hC4 := hC3.ext hb4
  have hF4 := hF3.ext hC3 hb4
  have hbw4 := ext_trans hbw3 hb4
  have hz4 : w.heap.size + 3 ≤ w4.heap.size := by have := hC4.1; omega
  clear hA3 hB3 hC3 hF3 hbw3 hb4 HVA3 HVB oA oB hvd hsz
  obtain ⟨_, oA⟩ := id hA4
  obtain ⟨_, oB⟩ := id hB4
  by_cases hbb : bx = by'
  · have hbt : (bx == by') = true := by rw [hbb]; simp
    have HQ := Lib.hid (HQS.out hbb)
    have HWS : wlen (x.num.natAbs * y.den + y.num.natAbs * x.den) ≤ 1000000000 := by
      have h1 := wlen_add (x.num.natAbs * y.den) (y.num.natAbs * x.den)
      have h2 := HW1.out
      have h3 := HW2.out
      omega
    clear hbb HQS HQL HQM
    go_wp2
    go_region_held3 (S2R w4 (w.heap.size + 2) w.heap.size #[Value.bool bx, Value.slice a1 (digs x.num.natAbs).length c1, Value.slice a2 (digs x.den).length c2] (w.heap.size + 1) #[Value.bool by', Value.slice a3 (digs y.num.natAbs).length c3, Value.slice a4 (digs y.den).length c4]) (first | exact S2R.start hA4 hB4 | exact S2R.ext (by with_reducible assumption) (by with_reducible assumption) (by omega) hA4 hB4 | exact S2R.set (S2R.set (S2R.set (by assumption) (by simp) (by omega) (by omega)) (by simp) (by omega) (by omega)) (by simp) (by omega) (by omega) | assumption) (first | (go_at_call 40; refine (add_at (x.num.natAbs * y.den) (y.num.natAbs * x.den) _ _ _ (HVA4.out.ext (by exact (Below.refl _ _).drew)) (HVB4.out.ext (by exact (Below.refl _ _).drew)) (by have := HW1.out; omega) (by have := HW2.out; omega)).mono ?_; rintro e w6 ⟨vs, rfl, hvs, hb6⟩; have hc6 := Lib.hid (ext_trans (Below.refl w4.heap.size w4).drew hb6); have HVS := Lib.hid hvs; have HVD6 := Lib.hid (HVD.out.ext hc6.out); clear hvs) | (go_at_call 44; refine (from_is Z _ _ _ (den_pos x y) HQ.out _ _ _ HVS.out HVD6.out HWS HW3.out).mono ?_; rintro e w7 ⟨vq, rfl, hq, hb7⟩; obtain ⟨p1, c5, p2, c6, rfl, k1, k2⟩ := hq.open_; have hc7 := Lib.hid (ext_trans hc6.out hb7); have HK1 := Lib.hid k1; have HK2 := Lib.hid k2; obtain ⟨r0, r1, r2⟩ := boxX (hC4.ext hc7.out); have g0 := (hF4.ext hC4 hc7.out) 0; have g1 := (hF4.ext hC4 hc7.out) 1; have g2 := (hF4.ext hC4 hc7.out) 2; clear k1 k2 hq))
    obtain ⟨k1, k2, k3, z0, z1, z2⟩ := res3 (decide (Z.num < 0)) (hC4.ext hc7.out) HK1.out HK2.out (ext_trans hbw4 hc7.out) (by omega)
    have HK := Lib.hid (And.intro k1 (And.intro k2 k3))
    clear k1 k2 k3
    go_wp2
    exact bodyPost_ret (v := .agg #[.bool (decide (Z.num < 0)), .slice p1 (digs Z.num.natAbs).length c5, .slice p2 (digs Z.den).length c6]) (by simp [results, Tryz.results60, go_sem, z0, z1, z2]) rfl ⟨_, rfl, ⟨_, _, rfl, HK.out.1, HK.out.2.1⟩, HK.out.2.2⟩
  · have hbt : (bx == by') = false := by simpa using hbb
    go_wp2_with fail
    refine (cmp_at (x.num.natAbs * y.den) (y.num.natAbs * x.den) _ _ _ HVA4.out HVB4.out).mono ?_
    rintro e w5 ⟨rfl, k, rfl⟩
    have HVA5 : Hid (N (w4.drewN k) va (x.num.natAbs * y.den)) := HVA4.out
    have HVB5 : Hid (N (w4.drewN k) vb (y.num.natAbs * x.den)) := HVB4.out
    have HVD5 : Hid (N (w4.drewN k) vd (x.den * y.den)) := HVD.out
    have hbw5 : Below w.heap.size w (w4.drewN k) := below_drewN hbw4 k
    have hz5 : w.heap.size + 3 ≤ (w4.drewN k).heap.size := hz4
    have hC5 : Box (w4.drewN k) (w.heap.size + 2) zeroX := hC4
    have hF5 : Fre (w4.drewN k) (w.heap.size + 2) := hF4
    have hA5 : Box (w4.drewN k) w.heap.size #[Value.bool bx, Value.slice a1 (digs x.num.natAbs).length c1, Value.slice a2 (digs x.den).length c2] := hA4
    have hB5 : Box (w4.drewN k) (w.heap.size + 1) #[Value.bool by', Value.slice a3 (digs y.num.natAbs).length c3, Value.slice a4 (digs y.den).length c4] := hB4
    clear hA4 hB4 hC4 hF4 hbw4 oA oB HVA4 HVB4 HVD hz4
    generalize w4.drewN k = w5 at *
    by_cases hlt : x.num.natAbs * y.den < y.num.natAbs * x.den
    · have hcm : cmpN (x.num.natAbs * y.den) (y.num.natAbs * x.den) = -1 := cmpN_lt hlt
      have HQ := Lib.hid (HQL.out hbb hlt)
      have hpos : 0 < y.num.natAbs * x.den := by omega
      have hle : x.num.natAbs * y.den ≤ y.num.natAbs * x.den := by omega
      have HPOS := Lib.hid hpos
      have HLE := Lib.hid hle
      have HWS : wlen (y.num.natAbs * x.den - x.num.natAbs * y.den) ≤ 1000000000 := by
        have h1 := wlen_mono (Nat.sub_le (y.num.natAbs * x.den) (x.num.natAbs * y.den))
        have h2 := HW2.out
        omega
      rw [hcm]
      clear hcm hlt hbb HQS HQL HQM hpos hle
      go_wp2
      go_region_held3 (S2R w5 (w.heap.size + 2) w.heap.size #[Value.bool bx, Value.slice a1 (digs x.num.natAbs).length c1, Value.slice a2 (digs x.den).length c2] (w.heap.size + 1) #[Value.bool by', Value.slice a3 (digs y.num.natAbs).length c3, Value.slice a4 (digs y.den).length c4]) (first | exact S2R.start hA5 hB5 | exact S2R.ext (by with_reducible assumption) (by with_reducible assumption) (by omega) hA5 hB5 | exact S2R.set (S2R.set (S2R.set (by assumption) (by simp) (by omega) (by omega)) (by simp) (by omega) (by omega)) (by simp) (by omega) (by omega) | assumption) (first | (go_at_call 94; refine (less_at (y.num.natAbs * x.den) (x.num.natAbs * y.den) _ _ _ (HVB5.out.ext (by exact (Below.refl _ _).drew)) (HVA5.out.ext (by exact (Below.refl _ _).drew)) (by have := HW2.out; omega) HLE.out HPOS.out).mono ?_; rintro e w6 ⟨vs, rfl, hvs, hb6⟩; have hc6 := Lib.hid (ext_trans (Below.refl w5.heap.size w5).drew hb6); have HVS := Lib.hid hvs; have HVD6 := Lib.hid (HVD5.out.ext hc6.out); clear hvs) | (go_at_call 44; refine (from_is Z _ _ _ (den_pos x y) HQ.out _ _ _ HVS.out HVD6.out HWS HW3.out).mono ?_; rintro e w7 ⟨vq, rfl, hq, hb7⟩; obtain ⟨p1, c5, p2, c6, rfl, k1, k2⟩ := hq.open_; have hc7 := Lib.hid (ext_trans hc6.out hb7); have HK1 := Lib.hid k1; have HK2 := Lib.hid k2; obtain ⟨r0, r1, r2⟩ := boxX (hC5.ext hc7.out); have g0 := (hF5.ext hC5 hc7.out) 0; have g1 := (hF5.ext hC5 hc7.out) 1; have g2 := (hF5.ext hC5 hc7.out) 2; clear k1 k2 hq))
      obtain ⟨k1, k2, k3, z0, z1, z2⟩ := res3 (decide (Z.num < 0)) (hC5.ext hc7.out) HK1.out HK2.out (ext_trans hbw5 hc7.out) (by omega)
      have HK := Lib.hid (And.intro k1 (And.intro k2 k3))
      clear k1 k2 k3
      go_wp2
      exact bodyPost_ret (v := .agg #[.bool (decide (Z.num < 0)), .slice p1 (digs Z.num.natAbs).length c5, .slice p2 (digs Z.den).length c6]) (by simp [results, Tryz.results60, go_sem, z0, z1, z2]) rfl ⟨_, rfl, ⟨_, _, rfl, HK.out.1, HK.out.2.1⟩, HK.out.2.2⟩
    · have hc0 : 0 ≤ cmpN (x.num.natAbs * y.den) (y.num.natAbs * x.den) := by have := @cmpN_neg (x.num.natAbs * y.den) (y.num.natAbs * x.den); omega
      have hle : y.num.natAbs * x.den ≤ x.num.natAbs * y.den := by omega
      have HQ2 := HQM.out hbb hle
      have HQ := Lib.hid HQ2.1
      have HPOS := Lib.hid HQ2.2
      have HLE := Lib.hid hle
      have HWS : wlen (x.num.natAbs * y.den - y.num.natAbs * x.den) ≤ 1000000000 := by
        have h1 := wlen_mono (Nat.sub_le (x.num.natAbs * y.den) (y.num.natAbs * x.den))
        have h2 := HW1.out
        omega
      generalize cmpN (x.num.natAbs * y.den) (y.num.natAbs * x.den) = cm at *
      clear hlt hbb HQS HQL HQM hle HQ2
      go_wp2
      go_region_held3 (S2R w5 (w.heap.size + 2) w.heap.size #[Value.bool bx, Value.slice a1 (digs x.num.natAbs).length c1, Value.slice a2 (digs x.den).length c2] (w.heap.size + 1) #[Value.bool by', Value.slice a3 (digs y.num.natAbs).length c3, Value.slice a4 (digs y.den).length c4]) (first | exact S2R.start hA5 hB5 | exact S2R.ext (by with_reducible assumption) (by with_reducible assumption) (by omega) hA5 hB5 | exact S2R.set (S2R.set (S2R.set (by assumption) (by simp) (by omega) (by omega)) (by simp) (by omega) (by omega)) (by simp) (by omega) (by omega) | assumption) (first | (go_at_call 94; refine (less_at (x.num.natAbs * y.den) (y.num.natAbs * x.den) _ _ _ (HVA5.out.ext (by exact (Below.refl _ _).drew)) (HVB5.out.ext (by exact (Below.refl _ _).drew)) (by have := HW1.out; omega) HLE.out HPOS.out).mono ?_; rintro e w6 ⟨vs, rfl, hvs, hb6⟩; have hc6 := Lib.hid (ext_trans (Below.refl w5.heap.size w5).drew hb6); have HVS := Lib.hid hvs; have HVD6 := Lib.hid (HVD5.out.ext hc6.out); clear hvs) | (go_at_call 44; refine (from_is Z _ _ _ (den_pos x y) HQ.out _ _ _ HVS.out HVD6.out HWS HW3.out).mono ?_; rintro e w7 ⟨vq, rfl, hq, hb7⟩; obtain ⟨p1, c5, p2, c6, rfl, k1, k2⟩ := hq.open_; have hc7 := Lib.hid (ext_trans hc6.out hb7); have HK1 := Lib.hid k1; have HK2 := Lib.hid k2; obtain ⟨r0, r1, r2⟩ := boxX (hC5.ext hc7.out); have g0 := (hF5.ext hC5 hc7.out) 0; have g1 := (hF5.ext hC5 hc7.out) 1; have g2 := (hF5.ext hC5 hc7.out) 2; clear k1 k2 hq))
      obtain ⟨k1, k2, k3, z0, z1, z2⟩ := res3 (decide (Z.num < 0)) (hC5.ext hc7.out) HK1.out HK2.out (ext_trans hbw5 hc7.out) (by omega)
      have HK := Lib.hid (And.intro k1 (And.intro k2 k3))
      clear k1 k2 k3
      go_wp2
      exact bodyPost_ret (v := .agg #[.bool (decide (Z.num < 0)), .slice p1 (digs Z.num.natAbs).length c5, .slice p2 (digs Z.den).length c6]) (by simp [results, Tryz.results60, go_sem, z0, z1, z2]) rfl ⟨_, rfl, ⟨_, _, rfl, HK.out.1, HK.out.2.1⟩, HK.out.2.2⟩
end Nm
end Go.Proofs.YtiieckboccbhhaaGreatDoor
namespace Go.Proofs.YtiieckboccbhhaaGreatDoor
open Go.RowKit
namespace Nm
/-- the block b is the call's own row of bytes, with whatever spare cells behind them -/
def OwnB (w : World) (b : Nat) (l : List UInt8) : Prop := ∃ cur rest, w.heap[b]? = some (.cells cur 5 (0, 0)) ∧ cur.toList = bcells l ++ rest
theorem OwnB.lt {w : World} {b : Nat} {l : List UInt8} (h : OwnB w b l) : b < w.heap.size := by
  obtain ⟨cur, rest, h, _⟩ := h
  rcases Nat.lt_or_ge b w.heap.size with hlt | hge
  · exact hlt
  · rw [Array.getElem?_eq_none hge] at h; cases h
theorem OwnB.cell {w : World} {b : Nat} {l : List UInt8} (h : OwnB w b l) {i : Nat} (hi : i < l.length) : w.cell? ⟨b, i, none⟩ = some (.int .u8 (l[i].toNat : Int)) := by
  obtain ⟨cur, rest, h, hc⟩ := h
  have := cell_of_row w b i _ _ (0, 0) h
  rw [this, ← Array.getElem?_toList, hc, List.getElem?_append_left (by rw [bcells_length]; exact hi), bcells_get _ _ hi]
theorem OwnB.frozen {w : World} {b : Nat} {l : List UInt8} (h : OwnB w b l) (i : Nat) : w.frozen? ⟨b, i, none⟩ = false := by
  obtain ⟨cur, rest, h, hc⟩ := h; simp [World.frozen?, h]
theorem OwnB.set {w : World} {b : Nat} {l : List UInt8} (h : OwnB w b l) {i : Nat} (hi : i < l.length) (x : UInt8) : OwnB (w.setCell ⟨b, i, none⟩ (.int .u8 (x.toNat : Int))) b (l.set i x) := by
  obtain ⟨cur, rest, h, hc⟩ := h
  refine ⟨cur.setIfInBounds i (.int .u8 (x.toNat : Int)), rest, ?_, ?_⟩
  · simp only [World.setCell, Array.getElem?_modify, h]; simp
  · rw [Array.toList_setIfInBounds, hc, List.set_append_left _ _ (by rw [bcells_length]; exact hi)]
    simp [bcells, List.map_set]
theorem OwnB.sl {w : World} {b : Nat} {l : List UInt8} (h : OwnB w b l) {c : Nat} (h1 : l.length ≤ c) (h2 : c ≤ maxLen) : Sl w (.slice (some ⟨b, 0, none⟩) l.length c) l.length (bcells l) := by
  refine ⟨_, c, rfl, h1, h2, (fun h => by cases h), fun i x hx => ⟨b, 0, rfl, ?_⟩⟩
  have hi : i < l.length := by have := (List.getElem?_eq_some_iff.1 hx).1; rwa [bcells_length] at this
  rw [bcells_get _ _ hi] at hx
  rw [Nat.zero_add, h.cell hi, hx]
theorem OwnB.ofRow {w : World} {base n : Nat} {v : Value} {l : List UInt8} (h : w.ownsRow base 5 1 v n (bcells l)) (hn : 0 < n) : ∃ g cap, v = .slice (some ⟨g, 0, none⟩) n cap ∧ base ≤ g ∧ n ≤ cap ∧ cap ≤ maxLen ∧ OwnB w g l := by
  obtain ⟨h1, ⟨_, h2⟩ | ⟨g, cap, cur, rfl, hb, hg, hn, hm, hs, ht⟩⟩ := h
  · omega
  · refine ⟨g, cap, rfl, hb, hn, hm, cur, cur.toList.drop (n * 1), hg, ?_⟩
    rw [← ht, List.take_append_drop]
theorem OwnB.take {w : World} {b : Nat} {l : List UInt8} (h : OwnB w b l) (k : Nat) : OwnB w b (l.take k) := by
  obtain ⟨cur, rest, h, hc⟩ := h
  refine ⟨cur, bcells (l.drop k) ++ rest, h, ?_⟩
  rw [hc, ← List.append_assoc, ← bcells_append, List.take_append_drop]
/-- half turned round -/
def Half (l S : List UInt8) (i : Nat) : Prop := S.length = l.length ∧ ∀ k (h : k < l.length), S[k]? = some (if k < i ∨ l.length - i ≤ k then l[l.length - 1 - k]'(by omega) else l[k])
theorem Half.start (l : List UInt8) : Half l l 0 := ⟨rfl, fun k h => by rw [List.getElem?_eq_getElem h, if_neg (by omega)]⟩
theorem Half.step {l S : List UInt8} {i j : Nat} (h : Half l S i) (hij : i < j) (hs : i + j + 1 = l.length) (h1 : i < S.length) (h2 : j < S.length) : Half l ((S.set i S[j]).set j S[i]) (i + 1) := by
  obtain ⟨hl, hk⟩ := h
  refine ⟨by simp [hl], fun k hkl => ?_⟩
  have ej : S[j] = l[j]'(by omega) := by
    have := hk j (by omega)
    rw [List.getElem?_eq_getElem h2, if_neg (by omega)] at this
    exact Option.some.inj this
  have ei : S[i] = l[i]'(by omega) := by
    have := hk i (by omega)
    rw [List.getElem?_eq_getElem h1, if_neg (by omega)] at this
    exact Option.some.inj this
  rw [List.getElem?_set]
  by_cases hkj : j = k
  · subst hkj
    rw [if_pos rfl, if_pos (by simp; omega), if_pos (by omega), ei]
    congr 2; omega
  · rw [if_neg hkj, List.getElem?_set]
    by_cases hki : i = k
    · subst hki
      rw [if_pos rfl, if_pos (by omega), if_pos (by omega), ej]
      congr 2; omega
    · rw [if_neg hki, hk k hkl]
      congr 1
      by_cases hc : k < i ∨ l.length - i ≤ k
      · rw [if_pos hc, if_pos (by omega)]
      · rw [if_neg hc, if_neg (by omega)]
theorem Half.done {l S : List UInt8} {i j : Nat} (h : Half l S i) (hij : j ≤ i) (hs : i + j + 1 = l.length) : S = l.reverse := by
  obtain ⟨hl, hk⟩ := h
  apply List.ext_getElem?
  intro k
  by_cases hkl : k < l.length
  · rw [hk k hkl, List.getElem?_reverse hkl]
    by_cases hc : k < i ∨ l.length - i ≤ k
    · rw [if_pos hc, List.getElem?_eq_getElem (by omega)]
    · rw [if_neg hc, List.getElem?_eq_getElem (by omega)]
      congr 2; omega
  · rw [List.getElem?_eq_none (by omega), List.getElem?_eq_none (by simp; omega)]
end Nm
end Go.Proofs.YtiieckboccbhhaaGreatDoor
namespace Go.Proofs.YtiieckboccbhhaaGreatDoor
namespace Nm
def digv (c : UInt8) : Nat := c.toNat - 48
/-- what digits mean -/
def decv (l : List UInt8) : Nat := l.foldl (fun a c => a * 10 + digv c) 0
theorem decv_nil : decv [] = 0 := rfl
theorem decv_foldl (m : List UInt8) : ∀ a, m.foldl (fun a c => a * 10 + digv c) a = a * 10 ^ m.length + decv m := by
  induction m with
  | nil => intro a; simp [decv]
  | cons c m ih =>
    intro a
    unfold decv
    simp only [List.foldl_cons, List.length_cons]
    rw [ih, ih (0 * 10 + digv c), Nat.pow_succ, Nat.zero_mul, Nat.zero_add, Nat.add_mul, Nat.mul_assoc, Nat.mul_comm 10]
    omega
theorem decv_append (l m : List UInt8) : decv (l ++ m) = decv l * 10 ^ m.length + decv m := by
  unfold decv; rw [List.foldl_append]; exact decv_foldl m _
theorem decv_snoc (l : List UInt8) (c : UInt8) : decv (l ++ [c]) = decv l * 10 + digv c := by rw [decv_append]; simp [decv]
/-- digits alone -/
def Digs (l : List UInt8) : Prop := ∀ c ∈ l, 48 ≤ c.toNat ∧ c.toNat ≤ 57
theorem Digs.take {l : List UInt8} (h : Digs l) (k : Nat) : Digs (l.take k) := fun c hc => h c (List.mem_of_mem_take hc)
theorem Digs.drop {l : List UInt8} (h : Digs l) (k : Nat) : Digs (l.drop k) := fun c hc => h c (List.mem_of_mem_drop hc)
theorem decv_lt {l : List UInt8} (h : Digs l) : decv l < 10 ^ l.length := by
  rw [← List.reverse_reverse l] at h ⊢
  generalize l.reverse = r at *
  induction r with
  | nil => simp [decv]
  | cons c r ih =>
    rw [List.reverse_cons] at h ⊢
    have h1 := ih (fun d hd => h d (by simp at hd ⊢; exact .inl hd))
    have h2 := h c (by simp)
    rw [decv_snoc, List.length_append, List.length_singleton, Nat.pow_succ]
    unfold digv
    omega
theorem decv_take_add (l : List UInt8) (i n : Nat) (h : i + n ≤ l.length) : decv (l.take (i + n)) = decv (l.take i) * 10 ^ n + decv ((l.drop i).take n) := by
  rw [List.take_add, decv_append, List.length_take, List.length_drop, Nat.min_eq_left (by omega)]
/-- a number has no more words than digits -/
theorem wlen_dec {x k : Nat} (h : x < 10 ^ k) : wlen x ≤ k :=
  wlen_le (Nat.lt_of_lt_of_le h (Nat.pow_le_pow_left (by decide) k))
theorem read_step {P V A c o b d0 : Nat} (h : V + P * c = A * b + d0) : (V + P * ((c + o * b) % 4294967296)) + P * B * ((c + o * b) / 4294967296) = (A + P * o) * b + d0 := by
  have e : P * ((c + o * b) % 4294967296) + P * B * ((c + o * b) / 4294967296) = P * (c + o * b) := by
    rw [B_eq, Nat.mul_assoc, ← Nat.mul_add, Nat.mod_add_div]
  rw [Nat.mul_add] at e
  rw [Nat.add_mul, Nat.mul_assoc P o b]
  omega
end Nm
end Go.Proofs.YtiieckboccbhhaaGreatDoor
namespace Go.Proofs.YtiieckboccbhhaaGreatDoor
namespace Nm
/-- the letter of a digit -/
def dch (d : Nat) : UInt8 := UInt8.ofNat (48 + d)
theorem dch_toNat {d : Nat} (h : d < 10) : (dch d).toNat = 48 + d := by
  unfold dch; rw [UInt8.toNat_ofNat']; exact Nat.mod_eq_of_lt (by omega)
theorem digv_dch {d : Nat} (h : d < 10) : digv (dch d) = d := by unfold digv; rw [dch_toNat h]; omega
/-- the numeral -/
def decS (x : Nat) : List UInt8 := if _h : x < 10 then [dch x] else decS (x / 10) ++ [dch (x % 10)]
  termination_by x
  decreasing_by omega
theorem decS_small {x : Nat} (h : x < 10) : decS x = [dch x] := by rw [decS]; rw [dif_pos h]
theorem decS_big {x : Nat} (h : ¬ x < 10) : decS x = decS (x / 10) ++ [dch (x % 10)] := by rw [decS]; rw [dif_neg h]
theorem decv_decS (x : Nat) : decv (decS x) = x := by
  induction x using Nat.strongRecOn with
  | ind x ih =>
    by_cases h : x < 10
    · rw [decS_small h, ← List.nil_append [dch x], decv_snoc, digv_dch h, decv_nil]; omega
    · rw [decS_big h, decv_snoc, ih _ (by omega), digv_dch (Nat.mod_lt _ (by decide))]; omega
theorem decS_digs (x : Nat) : Digs (decS x) := by
  induction x using Nat.strongRecOn with
  | ind x ih =>
    by_cases h : x < 10
    · rw [decS_small h]; intro c hc; rw [List.mem_singleton] at hc; subst hc; rw [dch_toNat h]; omega
    · rw [decS_big h]
      intro c hc
      rcases List.mem_append.1 hc with hc | hc
      · exact ih _ (by omega) c hc
      · rw [List.mem_singleton] at hc; subst hc; rw [dch_toNat (Nat.mod_lt _ (by decide))]; have := Nat.mod_lt x (show 10 > 0 by decide); omega
/-- digits alone, without needless zeros -/
def Whl (l : List UInt8) : Prop := Digs l ∧ ∃ c r, l = c :: r ∧ (r ≠ [] → c.toNat ≠ 48)
theorem decS_whl (x : Nat) : Whl (decS x) := by
  refine ⟨decS_digs x, ?_⟩
  induction x using Nat.strongRecOn with
  | ind x ih =>
    by_cases h : x < 10
    · exact ⟨_, [], decS_small h, fun h => absurd rfl h⟩
    · obtain ⟨c, r, h1, h2⟩ := ih (x / 10) (by omega)
      refine ⟨c, r ++ [dch (x % 10)], by rw [decS_big h, h1]; rfl, fun _ hc => ?_⟩
      by_cases hr : r = []
      · subst hr
        have hv := decv_decS (x / 10)
        rw [h1, ← List.nil_append [c], decv_snoc, decv_nil] at hv
        unfold digv at hv
        omega
      · exact h2 hr hc
theorem digv_lt {c : UInt8} (hc : 48 ≤ c.toNat ∧ c.toNat ≤ 57) : digv c < 10 := by unfold digv; omega
theorem dch_digv {c : UInt8} (hc : 48 ≤ c.toNat ∧ c.toNat ≤ 57) : dch (digv c) = c := by
  apply UInt8.toNat_inj.1; rw [dch_toNat (digv_lt hc)]; unfold digv; omega
theorem whl_pos {l : List UInt8} (h : Whl l) (hl : 1 < l.length) : 10 ^ (l.length - 1) ≤ decv l := by
  obtain ⟨hd, c, r, rfl, hc⟩ := h
  have hr : r ≠ [] := by intro h; subst h; simp at hl
  have := hc hr
  have h2 := hd c (by simp)
  rw [← List.singleton_append, decv_append, List.length_append]
  simp only [List.length_singleton]
  have h3 : 1 ≤ decv [c] := by rw [← List.nil_append [c], decv_snoc, decv_nil]; unfold digv; omega
  have h4 := Nat.mul_le_mul_right (10 ^ r.length) h3
  rw [show 1 + r.length - 1 = r.length by omega]
  omega
/-- the numeral is the only one -/
theorem whl_eq : ∀ (x : Nat) (l : List UInt8), Whl l → decv l = x → l = decS x := by
  intro x
  induction x using Nat.strongRecOn with
  | ind x ih =>
    intro l hw hv
    obtain ⟨hd, c, r, hl, hc⟩ := id hw
    by_cases hr : r = []
    · subst hr; subst hl
      have h2 := hd c (by simp)
      rw [← List.nil_append [c], decv_snoc, decv_nil] at hv
      have h3 := digv_lt h2
      rw [decS_small (by omega)]
      rw [show x = digv c by omega, dch_digv h2]
    · have hne : l ≠ [] := by rw [hl]; simp
      have hlen : 1 < l.length := by rw [hl]; have := List.length_pos_iff.2 hr; simp; omega
      have hp := whl_pos hw hlen
      have h10 : 10 ≤ decv l := by
        refine Nat.le_trans ?_ hp
        have := Nat.pow_le_pow_right (show 0 < 10 by decide) (show 1 ≤ l.length - 1 by omega)
        simpa using this
      have e := List.dropLast_concat_getLast hne
      have hdl : Whl l.dropLast := by
        refine ⟨fun c hc => hd c (List.dropLast_subset _ hc), c, r.dropLast, by rw [hl, List.dropLast_cons_of_ne_nil hr], fun _ => hc hr⟩
      have hg := hd (l.getLast hne) (List.getLast_mem hne)
      have hv2 := hv
      rw [← e, decv_snoc] at hv2
      have h9 := digv_lt hg
      have h5 := ih (x / 10) (by omega) l.dropLast hdl (by omega)
      rw [decS_big (by omega), ← h5, show x % 10 = digv (l.getLast hne) by omega, dch_digv hg, e]
theorem decS_length {x k : Nat} (h : x < 10 ^ k) (hk : 1 ≤ k) : (decS x).length ≤ k := by
  by_cases h1 : 1 < (decS x).length
  · have := whl_pos (decS_whl x) h1
    rw [decv_decS] at this
    have h2 := (Nat.pow_lt_pow_iff_right (show 1 < 10 by decide)).1 (Nat.lt_of_le_of_lt this h)
    omega
  · omega
theorem lt_of_decS {x k : Nat} (h : (decS x).length ≤ k) : x < 10 ^ k := by
  have := decv_lt (decS_digs x)
  rw [decv_decS] at this
  exact Nat.lt_of_lt_of_le this (Nat.pow_le_pow_right (by decide) h)
end Nm
end Go.Proofs.YtiieckboccbhhaaGreatDoor
namespace Go.Proofs.YtiieckboccbhhaaGreatDoor
open Go.RowKit
namespace Nm
def strOf (l : List UInt8) : ByteArray := ⟨l.toArray⟩
theorem strOf_list (l : List UInt8) : (strOf l).data.toList = l := rfl
theorem strOf_size (l : List UInt8) : (strOf l).size = l.length := rfl
theorem digs_eq_take {l : List Nat} (h : Dg l) : digs (val l) = l.take (wlen (val l)) := by
  rw [← List.reverse_reverse l] at h ⊢
  generalize l.reverse = r at *
  induction r with
  | nil => simp [val, digs_zero]
  | cons x r ih =>
    rw [List.reverse_cons] at h ⊢
    have h1 : Dg r.reverse := fun y hy => h y (by simp at hy ⊢; exact .inl hy)
    by_cases hx : x = 0
    · subst hx
      have e : val (r.reverse ++ [0]) = val r.reverse := by rw [val_append]; simp [val]
      rw [e, ih h1]
      have hle : wlen (val r.reverse) ≤ r.reverse.length := wlen_le (val_lt h1)
      rw [List.take_append_of_le_length hle]
    · have hc : Can (r.reverse ++ [x]) := fun _ => by simpa using hx
      have e := digs_val h hc
      have hw : wlen (val (r.reverse ++ [x])) = (r.reverse ++ [x]).length := by unfold wlen; rw [e]
      rw [hw, List.take_length, e]
theorem Own.num {w : World} {b : Nat} {l : List Nat} (h : Own w b l) (hd : Dg l) {c : Nat} (h1 : l.length ≤ c) (h2 : c ≤ maxLen) : N w (.slice (some ⟨b, 0, none⟩) (wlen (val l)) c) (val l) := by
  have := sl_take (h.sl h1 h2) (k := wlen (val l)) (wlen_le (val_lt hd))
  rw [wcs_take, ← digs_eq_take hd] at this
  exact this
theorem Own.ne_row {w : World} {b g base n : Nat} {l : List Nat} {c : Nat} {xs : List Value} (h : Own w b l) (hr : w.ownsRow base 5 1 (.slice (some ⟨g, 0, none⟩) n c) n xs) : b ≠ g := by
  rintro rfl
  obtain ⟨cur, rest, h, _⟩ := h
  obtain ⟨_, ⟨h2, _⟩ | ⟨g, cap, cur2, hv, _, hg, _⟩⟩ := hr
  · cases h2
  · cases hv
    rw [h] at hg
    injection hg with hg
    injection hg with _ ht
    exact absurd ht (by decide)
theorem Own.row {w w' : World} {b base n : Nat} {l : List Nat} {v : Value} {xs : List Value} (h : Own w b l) (hr : w.ownsRow base 5 1 v n xs) (hg : w.grownBy w' v.ownBlock) : Own w' b l := by
  refine h.keep (hg.block b h.lt ?_)
  obtain ⟨h1, ⟨rfl, _⟩ | ⟨g, cap, cur2, rfl, hb, hg', h3⟩⟩ := id hr
  · intro e; cases e
  · intro e
    have := h.ne_row hr
    injection e with e
    exact this e
end Nm
end Go.Proofs.YtiieckboccbhhaaGreatDoor
namespace Go.Proofs.YtiieckboccbhhaaGreatDoor
open Go.RowKit
namespace Nm
def numL (q : Rat) : List UInt8 := if q.num < 0 then 45 :: decS q.num.natAbs else decS q.num.natAbs
def showN (q : Rat) : ByteArray := strOf (numL q)
def showD (q : Rat) : ByteArray := strOf (decS q.den)
def Fits (q : Rat) : Prop := (decS q.num.natAbs).length ≤ 4000 ∧ (decS q.den).length ≤ 4000
instance (q : Rat) : Decidable (Fits q) := by unfold Fits; exact inferInstance
/-- the texts, and the fault -/
def outN (q : Rat) : ByteArray := if Fits q then showN q else ⟨#[]⟩
def outD (q : Rat) : ByteArray := if Fits q then showD q else ⟨#[]⟩
def outF (q : Rat) : Int := if Fits q then 0 else 2
theorem cat45 (l : List UInt8) : (⟨#[45]⟩ : ByteArray) ++ strOf l = strOf (45 :: l) := by
  apply ByteArray.ext
  rw [ByteArray.data_append]
  simp [strOf]
end Nm
end Go.Proofs.YtiieckboccbhhaaGreatDoor
namespace Go.Proofs.YtiieckboccbhhaaGreatDoor
namespace Nt
open _root_.Go.Proofs.YtiieckboccbhhaaGreatDoor.Nm (sgn)
/-- the same number, the terms divided by a number -/
def Sim (b : Bool) (n d : Nat) (b' : Bool) (n' d' : Nat) : Prop := ∃ g, 0 < g ∧ n = n' * g ∧ d = d' * g ∧ (b' = b ∨ n = 0 ∧ b' = false)
theorem Sim.refl (b : Bool) (n d : Nat) : Sim b n d b n d := ⟨1, Nat.one_pos, (Nat.mul_one n).symm, (Nat.mul_one d).symm, .inl rfl⟩
theorem Sim.low {b : Bool} {n d : Nat} (hd : 0 < d) : Sim b n d (b && decide (0 < n / d.gcd n)) (n / d.gcd n) (d / d.gcd n) := by
  have hg : 0 < d.gcd n := Nat.gcd_pos_of_pos_left _ hd
  refine ⟨d.gcd n, hg, (Nat.div_mul_cancel (Nat.gcd_dvd_right _ _)).symm, (Nat.div_mul_cancel (Nat.gcd_dvd_left _ _)).symm, ?_⟩
  by_cases h : n = 0
  · refine .inr ⟨h, ?_⟩
    rw [h, Nat.zero_div]; cases b <;> rfl
  · left
    have : 0 < n / d.gcd n := Nat.div_pos (Nat.le_of_dvd (by omega) (Nat.gcd_dvd_right _ _)) hg
    simp [this]
theorem Sim.num {b : Bool} {n d : Nat} {b' : Bool} {n' d' : Nat} (h : Sim b n d b' n' d') : n' ≤ n ∧ d' ≤ d := by
  obtain ⟨g, hg, h1, h2, _⟩ := h
  rw [h1, h2]
  exact ⟨Nat.le_mul_of_pos_right _ hg, Nat.le_mul_of_pos_right _ hg⟩
/-- a whole number stays as it is -/
theorem Sim.plus {n d : Nat} {b' : Bool} {n' d' : Nat} (h : Sim false n d b' n' d') : b' = false := by
  obtain ⟨_, _, _, _, h3 | h3⟩ := h
  · exact h3
  · exact h3.2
theorem Sim.whole {b : Bool} {n : Nat} {b' : Bool} {n' d' : Nat} (h : Sim b n 1 b' n' d') : n' = n ∧ d' = 1 := by
  obtain ⟨g, hg, h1, h2, _⟩ := h
  have hp : 0 < d' := by
    rcases Nat.eq_zero_or_pos d' with e | e
    · rw [e, Nat.zero_mul] at h2; cases h2
    · exact e
  have hg1 : g = 1 := by
    have : g ≤ d' * g := Nat.le_mul_of_pos_left _ hp
    omega
  subst hg1
  omega
end Nt
end Go.Proofs.YtiieckboccbhhaaGreatDoor
