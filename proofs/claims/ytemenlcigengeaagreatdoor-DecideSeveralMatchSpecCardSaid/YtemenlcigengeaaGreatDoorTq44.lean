/- Plus of package value. slices.Reverse at bytes. The numeral of a number: plain mathematics. -/
import Derived.Test.YtemenlcigengeaaGreatDoorTq00
import Derived.Test.YtemenlcigengeaaGreatDoorTq40
import Derived.Test.YtemenlcigengeaaGreatDoorTq41
import Derived.Test.YtemenlcigengeaaGreatDoorTq16
import Derived.Test.YtemenlcigengeaaGreatDoorTq05
import Derived.Test.YtemenlcigengeaaGreatDoorTq06
import Derived.Test.YtemenlcigengeaaGreatDoorTq03
import Derived.Test.YtemenlcigengeaaGreatDoorTq07
import Derived.Test.YtemenlcigengeaaGreatDoorProg
import Derived.Test.YtemenlcigengeaaGreatDoorTq08
namespace Go.Proofs.YtemenlcigengeaaGreatDoor
open Go.RowKit
namespace Nm
set_option maxHeartbeats 16000000 in
theorem xplus_at (x y : Rat) (v u : Value) (w : World) (hx : XR w v x) (hy : XR w u y) (l1 : wlen x.num.natAbs ≤ 100000000) (l2 : wlen x.den ≤ 100000000) (l3 : wlen y.num.natAbs ≤ 100000000) (l4 : wlen y.den ≤ 100000000) : Calls Tryz.prog 42 #[v, u] w (XPost w (x + y)) := by
  obtain ⟨a1, c1, a2, c2, rfl, h1, h2⟩ := hx.open_
  obtain ⟨a3, c3, a4, c4, rfl, h3, h4⟩ := hy.open_
  have H1 := Lib.hid h1
  have H2 := Lib.hid h2
  have H3 := Lib.hid h3
  have H4 := Lib.hid h4
  have HQS : Hid (decide (x.num < 0) = decide (y.num < 0) → x + y = Rat.normalize (sgn (decide (x.num < 0)) (x.num.natAbs * y.den + y.num.natAbs * x.den)) (x.den * y.den) (den_pos x y)) := by
    have : decide (x.num < 0) = decide (y.num < 0) → x + y = Rat.normalize (sgn (decide (x.num < 0)) (x.num.natAbs * y.den + y.num.natAbs * x.den)) (x.den * y.den) (den_pos x y) := fun h => by rw [Rat.add_def]; exact normalize_congr _ _ (add_same h)
    exact this
  have HQL : Hid (decide (x.num < 0) ≠ decide (y.num < 0) → x.num.natAbs * y.den < y.num.natAbs * x.den → x + y = Rat.normalize (sgn (decide (y.num < 0)) (y.num.natAbs * x.den - x.num.natAbs * y.den)) (x.den * y.den) (den_pos x y)) := by
    have : decide (x.num < 0) ≠ decide (y.num < 0) → x.num.natAbs * y.den < y.num.natAbs * x.den → x + y = Rat.normalize (sgn (decide (y.num < 0)) (y.num.natAbs * x.den - x.num.natAbs * y.den)) (x.den * y.den) (den_pos x y) := fun h hl => by rw [Rat.add_def]; exact normalize_congr _ _ (add_less h hl)
    exact this
  have HQM : Hid (decide (x.num < 0) ≠ decide (y.num < 0) → y.num.natAbs * x.den ≤ x.num.natAbs * y.den → x + y = Rat.normalize (sgn (decide (x.num < 0)) (x.num.natAbs * y.den - y.num.natAbs * x.den)) (x.den * y.den) (den_pos x y) ∧ 0 < x.num.natAbs * y.den) := by
    have : decide (x.num < 0) ≠ decide (y.num < 0) → y.num.natAbs * x.den ≤ x.num.natAbs * y.den → x + y = Rat.normalize (sgn (decide (x.num < 0)) (x.num.natAbs * y.den - y.num.natAbs * x.den)) (x.den * y.den) (den_pos x y) ∧ 0 < x.num.natAbs * y.den := fun h hl => ⟨by rw [Rat.add_def]; exact normalize_congr _ _ (add_more h hl), more_pos h hl⟩
    exact this
  have HW1 := Lib.hid (Nat.le_trans (wlen_mul x.num.natAbs y.den) (by omega : _ ≤ 200000000))
  have HW2 := Lib.hid (Nat.le_trans (wlen_mul y.num.natAbs x.den) (by omega : _ ≤ 200000000))
  have HW3 := Lib.hid (Nat.le_trans (wlen_mul x.den y.den) (by omega : _ ≤ 1000000000))
  clear h1 h2 hx h3 h4 hy
  generalize x + y = Z at *
  generalize decide (x.num < 0) = bx at *
  generalize decide (y.num < 0) = by' at *
  have tok1 : True := trivial
  go_enter Tryz.func42, Tryz.ntmps42
  go_upto_region 1 with (fail)
  refine wp_box3r fun W hsz hbW hA hB hC hF => ?_
  go_region_held3 (S2R W (w.heap.size + 2) w.heap.size #[Value.bool bx, Value.slice a1 (digs x.num.natAbs).length c1, Value.slice a2 (digs x.den).length c2] (w.heap.size + 1) #[Value.bool by', Value.slice a3 (digs y.num.natAbs).length c3, Value.slice a4 (digs y.den).length c4]) (first | exact S2R.start hA hB | exact S2R.ext (by with_reducible assumption) (by with_reducible assumption) (by omega) hA hB | exact S2R.set (S2R.set (S2R.set (by assumption) (by simp) (by omega) (by omega)) (by simp) (by omega) (by omega)) (by simp) (by omega) (by omega) | assumption) (first | (have _t := tok1; go_at_call 73; refine (times_at x.num.natAbs y.den _ _ _ (H1.out.ext (S2R.low (by assumption) hbW (by omega))) (H4.out.ext (S2R.low (by assumption) hbW (by omega))) (by omega) (by omega)).mono ?_; rintro e w2 ⟨va, rfl, hva, hb2⟩; have hc2 := Lib.hid (ext_trans (Below.refl W.heap.size W).drew hb2); have HVA := Lib.hid hva; clear tok1 hva) | (go_at_call 73; refine (times_at y.num.natAbs x.den _ _ _ (H3.out.ext (S2R.low (by assumption) hbW (by omega))) (H2.out.ext (S2R.low (by assumption) hbW (by omega))) (by omega) (by omega)).mono ?_; rintro e w3 ⟨vb, rfl, hvb, hb3⟩; have hc3 := Lib.hid (ext_trans hc2.out hb3); have HVA3 := Lib.hid (HVA.out.ext hb3); have HVB := Lib.hid hvb; clear hvb))
  have hA3 := hA.ext hc3.out
  have hB3 := hB.ext hc3.out
  have hC3 := hC.ext hc3.out
  have hF3 := hF.ext hC hc3.out
  have hbw3 := ext_trans hbW hc3.out
  clear hA hB hC hF hc2 hc3 hbW HVA hb2 hb3
  obtain ⟨_, oA⟩ := id hA3
  obtain ⟨_, oB⟩ := id hB3
  go_wp2_with fail
  refine (times_at x.den y.den _ _ _ (H2.out.ext hbw3) (H4.out.ext hbw3) (by omega) (by omega)).mono ?_
  rintro e w4 ⟨vd, rfl, hvd, hb4⟩
  have HVD := Lib.hid hvd
  have HVA4 := Lib.hid (HVA3.out.ext hb4)
  have HVB4 := Lib.hid (HVB.out.ext hb4)
  have hA4 := hA3.ext hb4
  have hB4 := hB3.ext hb4
  have hC4 := hC3.ext hb4
  have hF4 := hF3.ext hC3 hb4
  have hbw4 := ext_trans hbw3 hb4
  have hz4 : w.heap.size + 3 ≤ w4.heap.size := by have := hC4.1; omega
  clear hA3 hB3 hC3 hF3 hbw3 hb4 HVA3 HVB oA oB hvd hsz
  obtain ⟨_, oA⟩ := id hA4
  obtain ⟨_, oB⟩ := id hB4
  by_cases hbb : bx = by'
  · have hbt : (bx == by') = true := by rw [hbb]; simp
    have HQ := Lib.hid (HQS.out hbb)
    have HWS : wlen (x.num.natAbs * y.den + y.num.natAbs * x.den) ≤ 1000000000 := by
      have h1 := wlen_add (x.num.natAbs * y.den) (y.num.natAbs * x.den)
      have h2 := HW1.out
      have h3 := HW2.out
      omega
    clear hbb HQS HQL HQM
    go_wp2
    go_region_held3 (S2R w4 (w.heap.size + 2) w.heap.size #[Value.bool bx, Value.slice a1 (digs x.num.natAbs).length c1, Value.slice a2 (digs x.den).length c2] (w.heap.size + 1) #[Value.bool by', Value.slice a3 (digs y.num.natAbs).length c3, Value.slice a4 (digs y.den).length c4]) (first | exact S2R.start hA4 hB4 | exact S2R.ext (by with_reducible assumption) (by with_reducible assumption) (by omega) hA4 hB4 | exact S2R.set (S2R.set (S2R.set (by assumption) (by simp) (by omega) (by omega)) (by simp) (by omega) (by omega)) (by simp) (by omega) (by omega) | assumption) (first | (go_at_call 75; refine (add_at (x.num.natAbs * y.den) (y.num.natAbs * x.den) _ _ _ (HVA4.out.ext (by exact (Below.refl _ _).drew)) (HVB4.out.ext (by exact (Below.refl _ _).drew)) (by have := HW1.out; omega) (by have := HW2.out; omega)).mono ?_; rintro e w6 ⟨vs, rfl, hvs, hb6⟩; have hc6 := Lib.hid (ext_trans (Below.refl w4.heap.size w4).drew hb6); have HVS := Lib.hid hvs; have HVD6 := Lib.hid (HVD.out.ext hc6.out); clear hvs) | (go_at_call 74; refine (from_is Z _ _ _ (den_pos x y) HQ.out _ _ _ HVS.out HVD6.out HWS HW3.out).mono ?_; rintro e w7 ⟨vq, rfl, hq, hb7⟩; obtain ⟨p1, c5, p2, c6, rfl, k1, k2⟩ := hq.open_; have hc7 := Lib.hid (ext_trans hc6.out hb7); have HK1 := Lib.hid k1; have HK2 := Lib.hid k2; obtain ⟨r0, r1, r2⟩ := boxX (hC4.ext hc7.out); have g0 := (hF4.ext hC4 hc7.out) 0; have g1 := (hF4.ext hC4 hc7.out) 1; have g2 := (hF4.ext hC4 hc7.out) 2; clear k1 k2 hq))
    obtain ⟨k1, k2, k3, z0, z1, z2⟩ := res3 (decide (Z.num < 0)) (hC4.ext hc7.out) HK1.out HK2.out (ext_trans hbw4 hc7.out) (by omega)
    have HK := Lib.hid (And.intro k1 (And.intro k2 k3))
    clear k1 k2 k3
    go_wp2
    exact bodyPost_ret (v := .agg #[.bool (decide (Z.num < 0)), .slice p1 (digs Z.num.natAbs).length c5, .slice p2 (digs Z.den).length c6]) (by simp [results, Tryz.results42, go_sem, z0, z1, z2]) rfl ⟨_, rfl, ⟨_, _, rfl, HK.out.1, HK.out.2.1⟩, HK.out.2.2⟩
  · have hbt : (bx == by') = false := by simpa using hbb
    go_wp2_with fail
    refine (cmp_at (x.num.natAbs * y.den) (y.num.natAbs * x.den) _ _ _ HVA4.out HVB4.out).mono ?_
    rintro e w5 ⟨rfl, k, rfl⟩
    have HVA5 : Hid (N (w4.drewN k) va (x.num.natAbs * y.den)) := HVA4.out
    have HVB5 : Hid (N (w4.drewN k) vb (y.num.natAbs * x.den)) := HVB4.out
    have HVD5 : Hid (N (w4.drewN k) vd (x.den * y.den)) := HVD.out
    have hbw5 : Below w.heap.size w (w4.drewN k) := below_drewN hbw4 k
    have hz5 : w.heap.size + 3 ≤ (w4.drewN k).heap.size := hz4
    have hC5 : Box (w4.drewN k) (w.heap.size + 2) zeroX := hC4
    have hF5 : Fre (w4.drewN k) (w.heap.size + 2) := hF4
    have hA5 : Box (w4.drewN k) w.heap.size #[Value.bool bx, Value.slice a1 (digs x.num.natAbs).length c1, Value.slice a2 (digs x.den).length c2] := hA4
    have hB5 : Box (w4.drewN k) (w.heap.size + 1) #[Value.bool by', Value.slice a3 (digs y.num.natAbs).length c3, Value.slice a4 (digs y.den).length c4] := hB4
    clear hA4 hB4 hC4 hF4 hbw4 oA oB HVA4 HVB4 HVD hz4
    generalize w4.drewN k = w5 at *
    by_cases hlt : x.num.natAbs * y.den < y.num.natAbs * x.den
    · have hcm : cmpN (x.num.natAbs * y.den) (y.num.natAbs * x.den) = -1 := cmpN_lt hlt
      have HQ := Lib.hid (HQL.out hbb hlt)
      have hpos : 0 < y.num.natAbs * x.den := by omega
      have hle : x.num.natAbs * y.den ≤ y.num.natAbs * x.den := by omega
      have HPOS := Lib.hid hpos
      have HLE := Lib.hid hle
      have HWS : wlen (y.num.natAbs * x.den - x.num.natAbs * y.den) ≤ 1000000000 := by
        have h1 := wlen_mono (Nat.sub_le (y.num.natAbs * x.den) (x.num.natAbs * y.den))
        have h2 := HW2.out
        omega
      rw [hcm]
      clear hcm hlt hbb HQS HQL HQM hpos hle
      go_wp2
      go_region_held3 (S2R w5 (w.heap.size + 2) w.heap.size #[Value.bool bx, Value.slice a1 (digs x.num.natAbs).length c1, Value.slice a2 (digs x.den).length c2] (w.heap.size + 1) #[Value.bool by', Value.slice a3 (digs y.num.natAbs).length c3, Value.slice a4 (digs y.den).length c4]) (first | exact S2R.start hA5 hB5 | exact S2R.ext (by with_reducible assumption) (by with_reducible assumption) (by omega) hA5 hB5 | exact S2R.set (S2R.set (S2R.set (by assumption) (by simp) (by omega) (by omega)) (by simp) (by omega) (by omega)) (by simp) (by omega) (by omega) | assumption) (first | (go_at_call 77; refine (less_at (y.num.natAbs * x.den) (x.num.natAbs * y.den) _ _ _ (HVB5.out.ext (by exact (Below.refl _ _).drew)) (HVA5.out.ext (by exact (Below.refl _ _).drew)) (by have := HW2.out; omega) HLE.out HPOS.out).mono ?_; rintro e w6 ⟨vs, rfl, hvs, hb6⟩; have hc6 := Lib.hid (ext_trans (Below.refl w5.heap.size w5).drew hb6); have HVS := Lib.hid hvs; have HVD6 := Lib.hid (HVD5.out.ext hc6.out); clear hvs) | (go_at_call 74; refine (from_is Z _ _ _ (den_pos x y) HQ.out _ _ _ HVS.out HVD6.out HWS HW3.out).mono ?_; rintro e w7 ⟨vq, rfl, hq, hb7⟩; obtain ⟨p1, c5, p2, c6, rfl, k1, k2⟩ := hq.open_; have hc7 := Lib.hid (ext_trans hc6.out hb7); have HK1 := Lib.hid k1; have HK2 := Lib.hid k2; obtain ⟨r0, r1, r2⟩ := boxX (hC5.ext hc7.out); have g0 := (hF5.ext hC5 hc7.out) 0; have g1 := (hF5.ext hC5 hc7.out) 1; have g2 := (hF5.ext hC5 hc7.out) 2; clear k1 k2 hq))
      obtain ⟨k1, k2, k3, z0, z1, z2⟩ := res3 (decide (Z.num < 0)) (hC5.ext hc7.out) HK1.out HK2.out (ext_trans hbw5 hc7.out) (by omega)
      have HK := Lib.hid (And.intro k1 (And.intro k2 k3))
      clear k1 k2 k3
      go_wp2
      exact bodyPost_ret (v := .agg #[.bool (decide (Z.num < 0)), .slice p1 (digs Z.num.natAbs).length c5, .slice p2 (digs Z.den).length c6]) (by simp [results, Tryz.results42, go_sem, z0, z1, z2]) rfl ⟨_, rfl, ⟨_, _, rfl, HK.out.1, HK.out.2.1⟩, HK.out.2.2⟩
    · have hc0 : 0 ≤ cmpN (x.num.natAbs * y.den) (y.num.natAbs * x.den) := by have := @cmpN_neg (x.num.natAbs * y.den) (y.num.natAbs * x.den); omega
      have hle : y.num.natAbs * x.den ≤ x.num.natAbs * y.den := by omega
      have HQ2 := HQM.out hbb hle
      have HQ := Lib.hid HQ2.1
      have HPOS := Lib.hid HQ2.2
      have HLE := Lib.hid hle
      have HWS : wlen (x.num.natAbs * y.den - y.num.natAbs * x.den) ≤ 1000000000 := by
        have h1 := wlen_mono (Nat.sub_le (x.num.natAbs * y.den) (y.num.natAbs * x.den))
        have h2 := HW1.out
        omega
      generalize cmpN (x.num.natAbs * y.den) (y.num.natAbs * x.den) = cm at *
      clear hlt hbb HQS HQL HQM hle HQ2
      go_wp2
      go_region_held3 (S2R w5 (w.heap.size + 2) w.heap.size #[Value.bool bx, Value.slice a1 (digs x.num.natAbs).length c1, Value.slice a2 (digs x.den).length c2] (w.heap.size + 1) #[Value.bool by', Value.slice a3 (digs y.num.natAbs).length c3, Value.slice a4 (digs y.den).length c4]) (first | exact S2R.start hA5 hB5 | exact S2R.ext (by with_reducible assumption) (by with_reducible assumption) (by omega) hA5 hB5 | exact S2R.set (S2R.set (S2R.set (by assumption) (by simp) (by omega) (by omega)) (by simp) (by omega) (by omega)) (by simp) (by omega) (by omega) | assumption) (first | (go_at_call 77; refine (less_at (x.num.natAbs * y.den) (y.num.natAbs * x.den) _ _ _ (HVA5.out.ext (by exact (Below.refl _ _).drew)) (HVB5.out.ext (by exact (Below.refl _ _).drew)) (by have := HW1.out; omega) HLE.out HPOS.out).mono ?_; rintro e w6 ⟨vs, rfl, hvs, hb6⟩; have hc6 := Lib.hid (ext_trans (Below.refl w5.heap.size w5).drew hb6); have HVS := Lib.hid hvs; have HVD6 := Lib.hid (HVD5.out.ext hc6.out); clear hvs) | (go_at_call 74; refine (from_is Z _ _ _ (den_pos x y) HQ.out _ _ _ HVS.out HVD6.out HWS HW3.out).mono ?_; rintro e w7 ⟨vq, rfl, hq, hb7⟩; obtain ⟨p1, c5, p2, c6, rfl, k1, k2⟩ := hq.open_; have hc7 := Lib.hid (ext_trans hc6.out hb7); have HK1 := Lib.hid k1; have HK2 := Lib.hid k2; obtain ⟨r0, r1, r2⟩ := boxX (hC5.ext hc7.out); have g0 := (hF5.ext hC5 hc7.out) 0; have g1 := (hF5.ext hC5 hc7.out) 1; have g2 := (hF5.ext hC5 hc7.out) 2; clear k1 k2 hq))
      obtain ⟨k1, k2, k3, z0, z1, z2⟩ := res3 (decide (Z.num < 0)) (hC5.ext hc7.out) HK1.out HK2.out (ext_trans hbw5 hc7.out) (by omega)
      have HK := Lib.hid (And.intro k1 (And.intro k2 k3))
      clear k1 k2 k3
      go_wp2
      exact bodyPost_ret (v := .agg #[.bool (decide (Z.num < 0)), .slice p1 (digs Z.num.natAbs).length c5, .slice p2 (digs Z.den).length c6]) (by simp [results, Tryz.results42, go_sem, z0, z1, z2]) rfl ⟨_, rfl, ⟨_, _, rfl, HK.out.1, HK.out.2.1⟩, HK.out.2.2⟩
end Nm
end Go.Proofs.YtemenlcigengeaaGreatDoor
namespace Go.Proofs.YtemenlcigengeaaGreatDoor
open Go.RowKit
namespace Nm
def RevPost (w : World) (b : Nat) (l : List UInt8) (e : Ending) (w' : World) : Prop := e = .returned (.tuple #[]) ∧ OwnB w' b l.reverse ∧ w.grownBy w' (some b)
set_option maxHeartbeats 8000000 in
theorem reverse_at (l : List UInt8) (hl : 0 < l.length) (hl2 : l.length ≤ 1000000000000) (b c : Nat) (w : World) (hO : OwnB w b l) : Calls Tryz.prog 106 #[.slice (some ⟨b, 0, none⟩) l.length c] w (RevPost w b l) := by
  go_enter Tryz.func106, Tryz.ntmps106
  go_wp2
  go_loopw [2, 3] (fun iv jv wr => ∃ (i : Nat) (S : List UInt8), i ≤ l.length ∧ 2 * i ≤ l.length ∧ iv = .int .i64 i ∧ jv = .int .i64 ((l.length : Int) - 1 - i) ∧ Hid (Half l S i) ∧ OwnB wr b S ∧ w.grownBy wr (some b)) (fun iv _ _ => l.length - (intOf iv).toNat)
  case atStart => exact ⟨0, l, by omega, by omega, rfl, by simp, Half.start l, hO, World.grownBy.refl w _⟩
  case round =>
    obtain ⟨i, S, hi, hi2, rfl, rfl, HH, hOS, hg⟩ := hrel
    by_cases hlt : 2 * i + 1 < l.length
    · obtain ⟨j, hj⟩ : ∃ j, j = l.length - 1 - i := ⟨_, rfl⟩
      have hij : i < j := by omega
      have hs : i + j + 1 = l.length := by omega
      have hS : S.length = l.length := HH.out.1
      have h1 : i < S.length := by omega
      have h2 : j < S.length := by omega
      have HN := Lib.hid (HH.out.step hij hs h1 h2)
      have c1 := hOS.cell h1
      have c2 := hOS.cell h2
      have d1 := hOS.frozen i
      have d2 := hOS.frozen j
      have hO1 := hOS.set h1 S[j]
      have hO2 := hO1.set (i := j) (by rw [List.length_set]; exact h2) S[i]
      have hg2 := only_setCell (only_setCell hg (i := i) (.int .u8 (S[j].toNat : Int))) (i := j) (.int .u8 (S[i].toNat : Int))
      rw [show ((l.length : Int) - 1 - (i : Int)) = (j : Int) by omega]
      have HSS := Lib.hid hs
      have hjl : j < l.length := by omega
      have hil : i < l.length := by omega
      have hne1 : ¬ (i = j) := by omega
      have hne2 : ¬ (j = i) := by omega
      clear hj hS hs
      generalize S[i] = x at *
      generalize S[j] = y at *
      go_wp2
      go_region
      have hO3 : OwnB ((wr.setCell ⟨b, i, none⟩ (.int .u8 (y.toNat : Int))).setCell ⟨b, j, none⟩ (.int .u8 (x.toNat : Int))).drew b ((S.set i y).set j x) := hO2
      have hg3 : w.grownBy ((wr.setCell ⟨b, i, none⟩ (.int .u8 (y.toNat : Int))).setCell ⟨b, j, none⟩ (.int .u8 (x.toNat : Int))).drew (some b) := ⟨hg2.os, hg2.tape, hg2.output, hg2.size, hg2.block⟩
      clear hO1 hO2 hg2 c1 c2 d1 d2
      go_wp2
      go_roundw
      case rel => exact ⟨i + 1, _, by omega, by have := HSS.out; omega, by go_num, congrArg (Value.int .i64) (by have := HSS.out; omega), HN, hO3, hg3⟩
      case measure => simp [intOf]; omega
    · have HD : Hid (S = l.reverse) := HH.out.done (j := l.length - 1 - i) (by omega) (by omega)
      have hle : (l.length : Int) - 1 - (i : Int) ≤ (i : Int) := by omega
      go_wp2
      go_end0
      exact ⟨rfl, by rw [← HD.out]; exact hOS, hg⟩
end Nm
end Go.Proofs.YtemenlcigengeaaGreatDoor
namespace Go.Proofs.YtemenlcigengeaaGreatDoor
namespace Nm
/-- the lowest n digits, the lowest one first -/
def pad : Nat → Nat → List UInt8
  | 0, _ => []
  | n + 1, x => dch (x % 10) :: pad n (x / 10)
theorem pad_length (n : Nat) : ∀ x, (pad n x).length = n := by
  induction n with
  | zero => intro x; rfl
  | succ n ih => intro x; simp [pad, ih]
theorem pad_add (a b : Nat) : ∀ x, pad (a + b) x = pad a x ++ pad b (x / 10 ^ a) := by
  induction a with
  | zero => intro x; simp [pad]
  | succ a ih =>
    intro x
    rw [Nat.add_right_comm]
    simp only [pad, List.cons_append]
    rw [ih, Nat.pow_succ, Nat.mul_comm (10 ^ a), Nat.div_div_eq_div_mul]
theorem pad_snoc (n x : Nat) : pad (n + 1) x = pad n x ++ [dch (x / 10 ^ n % 10)] := by
  rw [pad_add n 1 x]; rfl
theorem pad_mod (n : Nat) : ∀ x, pad n (x % 10 ^ n) = pad n x := by
  induction n with
  | zero => intro x; rfl
  | succ n ih =>
    intro x
    have e1 : x % 10 ^ (n + 1) % 10 = x % 10 := Nat.mod_mod_of_dvd _ (by rw [Nat.pow_succ]; exact Nat.dvd_mul_left _ _)
    have e2 : x % 10 ^ (n + 1) / 10 = x / 10 % 10 ^ n := by rw [Nat.pow_succ, Nat.mul_comm]; exact Nat.mod_mul_right_div_self _ _ _
    simp only [pad, e1, e2, ih]
theorem pad_digs (n : Nat) : ∀ x, Digs (pad n x) := by
  induction n with
  | zero => intro x c hc; cases hc
  | succ n ih =>
    intro x c hc
    rcases List.mem_cons.1 hc with rfl | hc
    · rw [dch_toNat (Nat.mod_lt _ (by decide))]; have := Nat.mod_lt x (show 10 > 0 by decide); omega
    · exact ih _ c hc
/-- the value of digits, the lowest one first -/
theorem decv_pad (n : Nat) : ∀ x, x < 10 ^ n → decv (pad n x).reverse = x := by
  induction n with
  | zero => intro x h; have : x = 0 := by simpa using h
            subst this; rfl
  | succ n ih =>
    intro x h
    simp only [pad, List.reverse_cons]
    rw [decv_snoc, ih (x / 10) (by rw [Nat.pow_succ] at h; omega), digv_dch (Nat.mod_lt _ (by decide))]; omega
theorem take_rev (l : List UInt8) (k : Nat) (hk : k < l.length) (hz : l[k].toNat = 48) (x : Nat) (h : decv (l.take (k + 1)).reverse = x) : decv (l.take k).reverse = x := by
  rw [List.take_succ_eq_append_getElem hk, List.reverse_append, List.reverse_singleton, decv_append] at h
  have : decv [l[k]] = 0 := by rw [← List.nil_append [l[k]], decv_snoc, decv_nil]; unfold digv; omega
  rw [this] at h; omega
theorem strip_end {l : List UInt8} (hd : Digs l) {k : Nat} (hk : k < l.length) (hz : l[k].toNat ≠ 48) {x : Nat} (h : decv (l.take (k + 1)).reverse = x) : (l.take (k + 1)).reverse = decS x := by
  refine whl_eq x _ ⟨fun c hc => hd c (List.mem_of_mem_take (List.mem_reverse.1 hc)), l[k], (l.take k).reverse, ?_, fun _ => hz⟩ h
  rw [List.take_succ_eq_append_getElem hk, List.reverse_append]; rfl
end Nm
end Go.Proofs.YtemenlcigengeaaGreatDoor
