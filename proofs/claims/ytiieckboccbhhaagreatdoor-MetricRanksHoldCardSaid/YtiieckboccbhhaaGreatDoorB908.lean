/- common of package value: the greatest common divisor. XratFrom, Zero, Turned of package value. Zero, Turned, Times of package value. power, choose and tail of package metric. Printed by gen_tail.py. -/
import Derived.Test.YtiieckboccbhhaaGreatDoorB907
import Derived.Deep.LoopGhost
import Derived.Test.YtiieckboccbhhaaGreatDoorB904
import Derived.Deep.Cut
import Derived.Test.YtiieckboccbhhaaGreatDoorB900
namespace Go.Proofs.YtiieckboccbhhaaGreatDoor
open Go.RowKit
namespace Nm
set_option maxHeartbeats 4000000 in
theorem common_at (x y : Nat) (v u : Value) (w : World) (hx : N w v x) (hy : N w u y) (hxl : wlen x ≤ 1000000000) (hyl : wlen y ≤ 1000000000) : Calls Tryz.prog 80 #[v, u] w (NPost w (Nat.gcd x y)) := by
  obtain ⟨a, c, rfl, s1⟩ := hx.open_
  obtain ⟨a', c', rfl, s2⟩ := hy.open_
  have HX := Lib.hid hx
  have HY := Lib.hid hy
  clear hx hy s1 s2
  go_enter Tryz.func80, Tryz.ntmps80
  go_wp2
  go_loopg [0, 1] y (fun k s0 s1 wr => ∃ p : Nat, N wr s0 p ∧ N wr s1 k ∧ wlen p ≤ 1000000000 ∧ wlen k ≤ 1000000000 ∧ Nat.gcd p k = Nat.gcd x y ∧ Below w.heap.size w wr)
  case atStart => exact ⟨x, HX.out, HY.out, hxl, hyl, rfl, Below.refl _ _⟩
  case round =>
    obtain ⟨p, hp, hk, hpl, hkl, hg, hb⟩ := hrel
    have HP := Lib.hid hp
    have HK := Lib.hid hk
    have HG := Lib.hid hg
    obtain ⟨a, c, rfl, s1⟩ := hp.open_
    obtain ⟨a', c', rfl, s2⟩ := hk.open_
    clear hp hk hg s1 s2
    by_cases h0 : 0 < gk
    · have hl : 0 < (digs gk).length := by have := @wlen_eq_zero gk; unfold wlen at this; omega
      go_wp2_with fail
      refine (over_at p gk _ _ wr HP.out HK.out hpl h0).mono ?_
      rintro e w1 ⟨v1, v2, rfl, hq, hr, hb1⟩
      go_wp2
      go_roundg (p % gk)
      case measure => exact Nat.mod_lt _ h0
      case rel => exact ⟨gk, HK.out.ext hb1, hr, hkl, Nat.le_trans (wlen_mono (Nat.le_of_lt (Nat.mod_lt _ h0))) hkl, by rw [Nat.gcd_comm, ← Nat.gcd_rec, Nat.gcd_comm]; exact HG.out, ext_trans hb hb1⟩
    · obtain rfl : gk = 0 := by omega
      have hl : (digs 0).length = 0 := wlen_zero
      rw [hl]
      clear hl
      go_wp2
      go_ret
      exact ⟨_, rfl, by have := HG.out; rw [Nat.gcd_zero_right] at this; rw [← this]; exact HP.out, hb⟩
end Nm
end Go.Proofs.YtiieckboccbhhaaGreatDoor
namespace Go.Proofs.YtiieckboccbhhaaGreatDoor
open Go.RowKit
namespace Nm
/-- An exact number as it lies in three cells. -/
def XR (w : World) (v : Value) (q : Rat) : Prop := ∃ v1 v2, v = .agg #[.bool (decide (q.num < 0)), v1, v2] ∧ N w v1 q.num.natAbs ∧ N w v2 q.den
theorem XR.ext {w w' : World} {v : Value} {q : Rat} (h : XR w v q) (hb : Below w.heap.size w w') : XR w' v q := by
  obtain ⟨v1, v2, h0, h1, h2⟩ := h; exact ⟨v1, v2, h0, h1.ext hb, h2.ext hb⟩
def XPost (w : World) (q : Rat) (e : Ending) (w' : World) : Prop := ∃ v, e = .returned v ∧ XR w' v q ∧ Below w.heap.size w w'
def isWord : Value → Bool
  | .int .u32 _ => true
  | _ => false
/-- a number lies in no block of other things -/
theorem N.keepBox {w w' : World} {v : Value} {n b : Nat} {A : Array Value} (h : N w v n) (hA : Box w b A) (hne : ∀ (j : Nat) (u : Value), A[j]? = some u → isWord u = false) (hk : ∀ p : Addr, p.block ≠ b → w'.cell? p = w.cell? p) : N w' v n := by
  obtain ⟨a, cap, hv, h1, h2, h0, h3⟩ := h
  refine ⟨a, cap, hv, h1, h2, h0, fun i x hx => ?_⟩
  obtain ⟨b', o, ha, hc⟩ := h3 i x hx
  refine ⟨b', o, ha, (hk _ ?_).trans hc⟩
  rintro (rfl : b' = b)
  have h4 := hA.2 (o + i)
  rw [hc] at h4
  have h5 := hne _ _ h4.symm
  have hi : i < (digs n).length := by have := (List.getElem?_eq_some_iff.1 hx).1; rwa [wcs_length] at this
  rw [wcs_get hi] at hx
  cases hx
  cases h5
/-- Three cells of a block, written. -/
theorem three_set {w : World} {b : Nat} {u0 u1 u2 : Value} (v0 v1 v2 : Value) (h0 : w.cell? ⟨b, 0, none⟩ = some u0) (h1 : w.cell? ⟨b, 1, none⟩ = some u1) (h2 : w.cell? ⟨b, 2, none⟩ = some u2) :
    (((w.setCell ⟨b, 0, none⟩ v0).setCell ⟨b, 1, none⟩ v1).setCell ⟨b, 2, none⟩ v2).cell? ⟨b, 0, none⟩ = some v0 ∧ (((w.setCell ⟨b, 0, none⟩ v0).setCell ⟨b, 1, none⟩ v1).setCell ⟨b, 2, none⟩ v2).cell? ⟨b, 1, none⟩ = some v1 ∧ (((w.setCell ⟨b, 0, none⟩ v0).setCell ⟨b, 1, none⟩ v1).setCell ⟨b, 2, none⟩ v2).cell? ⟨b, 2, none⟩ = some v2 := by
  obtain ⟨e0, e1⟩ := two_set v0 v1 h0 h1
  have e2 : ((w.setCell ⟨b, 0, none⟩ v0).setCell ⟨b, 1, none⟩ v1).cell? ⟨b, 2, none⟩ = some u2 := by rw [World.cell?_setCell_other _ _ _ _ (by simp), World.cell?_setCell_other _ _ _ _ (by simp)]; exact h2
  refine ⟨?_, ?_, World.cell?_setCell_same _ _ _ e2⟩
  · rw [World.cell?_setCell_other _ _ _ _ (by simp)]; exact e0
  · rw [World.cell?_setCell_other _ _ _ _ (by simp)]; exact e1
theorem set3_other {w : World} {b : Nat} (v0 v1 v2 : Value) : ∀ p : Addr, p.block ≠ b → (((w.setCell ⟨b, 0, none⟩ v0).setCell ⟨b, 1, none⟩ v1).setCell ⟨b, 2, none⟩ v2).cell? p = w.cell? p := by
  intro p hp
  rw [World.cell?_setCell_other _ _ _ _ (fun e => hp (by rw [← e])), World.cell?_setCell_other _ _ _ _ (fun e => hp (by rw [← e])), World.cell?_setCell_other _ _ _ _ (fun e => hp (by rw [← e]))]
/-- the cells of no exact number -/
def zeroX : Array Value := #[.bool false, .slice none 0 0, .slice none 0 0]
theorem boxX {w : World} {b : Nat} (h : Box w b zeroX) : w.cell? ⟨b, 0, none⟩ = some (.bool false) ∧ w.cell? ⟨b, 1, none⟩ = some (.slice none 0 0) ∧ w.cell? ⟨b, 2, none⟩ = some (.slice none 0 0) := ⟨h.2 0, h.2 1, h.2 2⟩
theorem zeroX_word : ∀ (j : Nat) (u : Value), zeroX[j]? = some u → isWord u = false := by
  intro j u h
  match j with
  | 0 => cases h; rfl
  | 1 => cases h; rfl
  | 2 => cases h; rfl
  | n + 3 => simp [zeroX] at h
/-- what is there behind the store of a struct result -/
theorem res3 {w0 w : World} {b : Nat} {v1 v2 : Value} {n1 n2 : Nat} (bb : Bool) (hC : Box w b zeroX) (h1 : N w v1 n1) (h2 : N w v2 n2) (hb : Below w0.heap.size w0 w) (hle : w0.heap.size ≤ b) :
    let w' := ((w.setCell ⟨b, 0, none⟩ (.bool bb)).setCell ⟨b, 1, none⟩ v1).setCell ⟨b, 2, none⟩ v2
    N w' v1 n1 ∧ N w' v2 n2 ∧ Below w0.heap.size w0 w' ∧ w'.cell? ⟨b, 0, none⟩ = some (.bool bb) ∧ w'.cell? ⟨b, 1, none⟩ = some v1 ∧ w'.cell? ⟨b, 2, none⟩ = some v2 := by
  have hq := three_set (.bool bb) v1 v2 (hC.2 0) (hC.2 1) (hC.2 2)
  exact ⟨h1.keepBox hC zeroX_word (set3_other _ _ _), h2.keepBox hC zeroX_word (set3_other _ _ _), ((hb.setCell hle _).setCell hle _).setCell hle _, hq.1, hq.2.1, hq.2.2⟩
def FromPost (w : World) (b : Bool) (n d : Nat) (e : Ending) (w' : World) : Prop := ∃ v1 v2, e = .returned (.agg #[.bool (b && decide (0 < n / n.gcd d)), v1, v2]) ∧ N w' v1 (n / n.gcd d) ∧ N w' v2 (d / n.gcd d) ∧ Below w.heap.size w w'
set_option maxHeartbeats 8000000 in
theorem from_raw (b : Bool) (n d : Nat) (hd : 0 < d) (v u : Value) (w : World) (hn : N w v n) (hu : N w u d) (hnl : wlen n ≤ 1000000000) (hdl : wlen d ≤ 1000000000) :
    Calls Tryz.prog 44 #[.bool b, v, u] w (FromPost w b n d) := by
  have HN := Lib.hid hn
  have HU := Lib.hid hu
  obtain ⟨a, c, rfl, s1⟩ := hn.open_
  obtain ⟨a', c', rfl, s2⟩ := hu.open_
  clear s1 s2 hn hu
  have hgp : 0 < n.gcd d := Nat.gcd_pos_of_pos_right _ hd
  go_enter Tryz.func44, Tryz.ntmps44
  go_upto_region 1 with (fail)
  refine wp_box1r fun W hsz hbW hC hF => ?_
  clear hsz
  go_wp2_with fail
  refine (common_at n d _ _ W (HN.out.ext hbW) (HU.out.ext hbW) hnl hdl).mono ?_
  rintro e w1 ⟨vg, rfl, hg, hb1⟩
  have hC1 := hC.ext hb1
  have hF1 := hF.ext hC hb1
  have hbw1 := ext_trans hbW hb1
  clear hC hF hb1 hbW
  have hx1 := xnatOf_at 1 (by decide) w1
  rw [show ((1 : Nat) : Int) = 1 from rfl] at hx1
  go_wp2_with fail
  refine hx1.mono ?_
  rintro e w2 ⟨vo, rfl, ho, hb2⟩
  have hg2 := hg.ext hb2
  have hC2 := hC1.ext hb2
  have hF2 := hF1.ext hC1 hb2
  have hbw2 := ext_trans hbw1 hb2
  clear hC1 hF1 hb2 hbw1 hx1 hg
  go_wp2_with fail
  refine (cmp_at (n.gcd d) 1 vg vo w2 hg2 ho).mono ?_
  rintro e w3 ⟨rfl, k, rfl⟩
  have hg3 : N (w2.drewN k) vg (n.gcd d) := hg2
  have hC3 : Box (w2.drewN k) w.heap.size zeroX := hC2
  have hF3 : Fre (w2.drewN k) w.heap.size := hF2
  have hbw3 : Below w.heap.size w (w2.drewN k) := below_drewN hbw2 k
  clear hg2 hC2 hF2 hbw2 ho
  generalize w2.drewN k = w3 at *
  by_cases h1 : n.gcd d = 1
  · have hc0 : cmpN (n.gcd d) 1 = 0 := cmpN_zero.2 h1
    have HFIN1 : Hid (n / n.gcd d = n) := by
      have : n / n.gcd d = n := by rw [h1, Nat.div_one]
      exact this
    have HFIN2 : Hid (d / n.gcd d = d) := by
      have : d / n.gcd d = d := by rw [h1, Nat.div_one]
      exact this
    rw [hc0]
    have hN3 := HN.out.ext hbw3
    have hU3 := HU.out.ext hbw3
    clear hc0 h1 hgp hg3
    have g0 := hF3 0
    have g1 := hF3 1
    have g2 := hF3 2
    obtain ⟨r0, r1, r2⟩ := boxX hC3
    have hLm : 0 < (digs (n)).length ↔ 0 < n := by rw [Nat.pos_iff_ne_zero, Nat.pos_iff_ne_zero]; exact not_congr wlen_eq_zero
    have HLM := Lib.hid hLm
    clear hLm
    cases b
    · obtain ⟨k1, k2, k3, z0, z1, z2⟩ := res3 false hC3 hN3 hU3 hbw3 (Nat.le_refl _)
      have HK := Lib.hid (And.intro k1 (And.intro k2 k3))
      clear k1 k2 k3
      go_wp2
      exact bodyPost_ret (v := .agg #[.bool false, .slice a (digs (n)).length c, .slice a' (digs (d)).length c']) (by simp [results, Tryz.results44, go_sem, z0, z1, z2]) rfl ⟨_, _, rfl, by rw [HFIN1.out]; exact HK.out.1, by rw [HFIN2.out]; exact HK.out.2.1, HK.out.2.2⟩
    · by_cases hm : 0 < n
      · have hl : 0 < (digs (n)).length := HLM.out.2 hm
        have hd1 : decide (0 < n) = true := decide_eq_true hm
        have HD := Lib.hid hd1
        obtain ⟨k1, k2, k3, z0, z1, z2⟩ := res3 true hC3 hN3 hU3 hbw3 (Nat.le_refl _)
        have HK := Lib.hid (And.intro k1 (And.intro k2 k3))
        clear k1 k2 k3 hm hd1
        go_wp2
        exact bodyPost_ret (v := .agg #[.bool true, .slice a (digs (n)).length c, .slice a' (digs (d)).length c']) (by simp [results, Tryz.results44, go_sem, z0, z1, z2]) rfl ⟨_, _, by rw [HFIN1.out, HD.out]; rfl, by rw [HFIN1.out]; exact HK.out.1, by rw [HFIN2.out]; exact HK.out.2.1, HK.out.2.2⟩
      · have hl : (digs (n)).length = 0 := by have := HLM.out; omega
        have hd1 : decide (0 < n) = false := decide_eq_false hm
        have HD := Lib.hid hd1
        have HL0 := Lib.hid hl
        have hlb : decide ((0 : Int) < ((digs (n)).length : Int)) = false := by rw [hl]; rfl
        have hlc : decide (0 < (digs (n)).length) = false := by rw [hl]; rfl
        obtain ⟨k1, k2, k3, z0, z1, z2⟩ := res3 false hC3 hN3 hU3 hbw3 (Nat.le_refl _)
        have HK := Lib.hid (And.intro k1 (And.intro k2 k3))
        clear k1 k2 k3 hm hd1 hl
        go_wp2
        exact bodyPost_ret (v := .agg #[.bool false, .slice a (digs (n)).length c, .slice a' (digs (d)).length c']) (by simp [results, Tryz.results44, go_sem, z0, z1, z2]) rfl ⟨_, _, by rw [HFIN1.out, HD.out]; rfl, by rw [HFIN1.out]; exact HK.out.1, by rw [HFIN2.out]; exact HK.out.2.1, HK.out.2.2⟩
  · have hne : (cmpN (n.gcd d) 1 != 0) = true := by
      have := @cmpN_zero (n.gcd d) 1
      simp only [bne_iff_ne]; omega
    go_wp2_with fail
    refine (over_at n (n.gcd d) _ vg w3 (HN.out.ext hbw3) hg3 hnl hgp).mono ?_
    rintro e w4 ⟨vq, vr, rfl, hq, _, hb4⟩
    have hg4 := hg3.ext hb4
    have hC4 := hC3.ext hb4
    have hF4 := hF3.ext hC3 hb4
    have hbw4 := ext_trans hbw3 hb4
    clear hg3 hC3 hF3 hbw3 hb4
    go_wp2_with fail
    refine (over_at d (n.gcd d) _ vg w4 (HU.out.ext hbw4) hg4 hdl hgp).mono ?_
    rintro e w5 ⟨vq2, vr2, rfl, hq2, _, hb5⟩
    have hq5 := hq.ext hb5
    have hC5 := hC4.ext hb5
    have hF5 := hF4.ext hC4 hb5
    have hbw5 := ext_trans hbw4 hb5
    clear hq hC4 hF4 hbw4 hb5 hg4
    -- TAIL2
    have HFIN1 : Hid (n / n.gcd d = n / n.gcd d) := Lib.hid rfl
    have HFIN2 : Hid (d / n.gcd d = d / n.gcd d) := Lib.hid rfl
    obtain ⟨aq, cq, rfl, _⟩ := hq5.open_
    obtain ⟨aq2, cq2, rfl, _⟩ := hq2.open_
    have g0 := hF5 0
    have g1 := hF5 1
    have g2 := hF5 2
    obtain ⟨r0, r1, r2⟩ := boxX hC5
    have hLm : 0 < (digs (n / n.gcd d)).length ↔ 0 < n / n.gcd d := by rw [Nat.pos_iff_ne_zero, Nat.pos_iff_ne_zero]; exact not_congr wlen_eq_zero
    have HLM := Lib.hid hLm
    clear hLm
    cases b
    · obtain ⟨k1, k2, k3, z0, z1, z2⟩ := res3 false hC5 hq5 hq2 hbw5 (Nat.le_refl _)
      have HK := Lib.hid (And.intro k1 (And.intro k2 k3))
      clear k1 k2 k3
      go_wp2
      exact bodyPost_ret (v := .agg #[.bool false, .slice aq (digs (n / n.gcd d)).length cq, .slice aq2 (digs (d / n.gcd d)).length cq2]) (by simp [results, Tryz.results44, go_sem, z0, z1, z2]) rfl ⟨_, _, rfl, HK.out.1, HK.out.2.1, HK.out.2.2⟩
    · by_cases hm : 0 < n / n.gcd d
      · have hl : 0 < (digs (n / n.gcd d)).length := HLM.out.2 hm
        have hd1 : decide (0 < n / n.gcd d) = true := decide_eq_true hm
        have HD := Lib.hid hd1
        obtain ⟨k1, k2, k3, z0, z1, z2⟩ := res3 true hC5 hq5 hq2 hbw5 (Nat.le_refl _)
        have HK := Lib.hid (And.intro k1 (And.intro k2 k3))
        clear k1 k2 k3 hm hd1
        go_wp2
        exact bodyPost_ret (v := .agg #[.bool true, .slice aq (digs (n / n.gcd d)).length cq, .slice aq2 (digs (d / n.gcd d)).length cq2]) (by simp [results, Tryz.results44, go_sem, z0, z1, z2]) rfl ⟨_, _, by rw [HD.out]; rfl, HK.out.1, HK.out.2.1, HK.out.2.2⟩
      · have hl : (digs (n / n.gcd d)).length = 0 := by have := HLM.out; omega
        have hd1 : decide (0 < n / n.gcd d) = false := decide_eq_false hm
        have HD := Lib.hid hd1
        have HL0 := Lib.hid hl
        have hlb : decide ((0 : Int) < ((digs (n / n.gcd d)).length : Int)) = false := by rw [hl]; rfl
        have hlc : decide (0 < (digs (n / n.gcd d)).length) = false := by rw [hl]; rfl
        obtain ⟨k1, k2, k3, z0, z1, z2⟩ := res3 false hC5 hq5 hq2 hbw5 (Nat.le_refl _)
        have HK := Lib.hid (And.intro k1 (And.intro k2 k3))
        clear k1 k2 k3 hm hd1 hl
        go_wp2
        exact bodyPost_ret (v := .agg #[.bool false, .slice aq (digs (n / n.gcd d)).length cq, .slice aq2 (digs (d / n.gcd d)).length cq2]) (by simp [results, Tryz.results44, go_sem, z0, z1, z2]) rfl ⟨_, _, by rw [HD.out]; rfl, HK.out.1, HK.out.2.1, HK.out.2.2⟩
theorem from_at (b : Bool) (n d : Nat) (hd : d ≠ 0) (v u : Value) (w : World) (hn : N w v n) (hu : N w u d) (hnl : wlen n ≤ 1000000000) (hdl : wlen d ≤ 1000000000) :
    Calls Tryz.prog 44 #[.bool b, v, u] w (XPost w (Rat.normalize (sgn b n) d hd)) := by
  refine (from_raw b n d (Nat.pos_of_ne_zero hd) v u w hn hu hnl hdl).mono ?_
  rintro e w' ⟨v1, v2, rfl, h1, h2, hb⟩
  exact ⟨_, rfl, ⟨v1, v2, by rw [norm_neg], by rw [norm_abs]; exact h1, by rw [norm_den]; exact h2⟩, hb⟩
end Nm
end Go.Proofs.YtiieckboccbhhaaGreatDoor
namespace Go.Proofs.YtiieckboccbhhaaGreatDoor
open Go.RowKit
namespace Nm
theorem XR.open_ {w : World} {v : Value} {q : Rat} (h : XR w v q) : ∃ a1 c1 a2 c2, v = .agg #[.bool (decide (q.num < 0)), .slice a1 (digs q.num.natAbs).length c1, .slice a2 (digs q.den).length c2] ∧ N w (.slice a1 (digs q.num.natAbs).length c1) q.num.natAbs ∧ N w (.slice a2 (digs q.den).length c2) q.den := by
  obtain ⟨v1, v2, rfl, h1, h2⟩ := h
  obtain ⟨a1, c1, rfl, _⟩ := h1.open_
  obtain ⟨a2, c2, rfl, _⟩ := h2.open_
  exact ⟨a1, c1, a2, c2, rfl, h1, h2⟩
theorem from_is (q : Rat) (b : Bool) (n d : Nat) (hd : d ≠ 0) (hq : q = Rat.normalize (sgn b n) d hd) (v u : Value) (w : World) (hn : N w v n) (hu : N w u d) (hnl : wlen n ≤ 1000000000) (hdl : wlen d ≤ 1000000000) :
    Calls Tryz.prog 44 #[.bool b, v, u] w (XPost w q) := by subst hq; exact from_at b n d hd v u w hn hu hnl hdl
theorem S2R.low {w W w' : World} {B b1 : Nat} {A1 : Array Value} {b2 : Nat} {A2 : Array Value} (h : S2R W B b1 A1 b2 A2 w') (hb : Below w.heap.size w W) (hB : w.heap.size ≤ B) : Below w.heap.size w w' := hb.trans (h.1.mono hB)
set_option maxHeartbeats 2000000 in
theorem zero_at (q : Rat) (v : Value) (w : World) (hx : XR w v q) : Calls Tryz.prog 54 #[v] w fun e w' => e = .returned (.bool (decide (q.num = 0))) ∧ Below w.heap.size w w' := by
  obtain ⟨a1, c1, a2, c2, rfl, h1, h2⟩ := hx.open_
  have HZ : Hid (((((digs q.num.natAbs).length : Nat) : Int) == 0) = decide (q.num = 0)) := by
    have : ((((digs q.num.natAbs).length : Nat) : Int) == 0) = decide (q.num = 0) := by
      rw [Bool.eq_iff_iff, beq_iff_eq, decide_eq_true_eq]
      have h := @wlen_eq_zero q.num.natAbs
      unfold wlen at h
      omega
    exact this
  clear h1 h2 hx
  go_enter Tryz.func54, Tryz.ntmps54
  go_wp2
  go_ret
  exact ⟨congrArg (fun b => Ending.returned (.bool b)) HZ.out, by go_grown⟩
set_option maxHeartbeats 4000000 in
theorem turned_at (q : Rat) (v : Value) (w : World) (hx : XR w v q) (h0 : q.num ≠ 0) : Calls Tryz.prog 57 #[v] w (XPost w q⁻¹) := by
  obtain ⟨a1, c1, a2, c2, rfl, h1, h2⟩ := hx.open_
  have H1 := Lib.hid h1
  have H2 := Lib.hid h2
  have HI := Lib.hid (inv_facts h0)
  clear h1 h2 hx h0
  go_enter Tryz.func57, Tryz.ntmps57
  go_upto_region 1 with (fail)
  refine wp_box2r fun W hsz hbW hA hC hF => ?_
  obtain ⟨_, hA2⟩ := id hA
  obtain ⟨r0, r1, r2⟩ := boxX hC
  have g0 := hF 0
  have g1 := hF 1
  have g2 := hF 2
  obtain ⟨k1, k2, k3, z0, z1, z2⟩ := res3 (decide (q.num < 0)) hC (H2.out.ext hbW) (H1.out.ext hbW) hbW (by omega)
  have HK := Lib.hid (And.intro k1 (And.intro k2 k3))
  clear k1 k2 k3 hsz
  go_wp2
  refine bodyPost_ret (v := .agg #[.bool (decide (q.num < 0)), .slice a2 (digs q.den).length c2, .slice a1 (digs q.num.natAbs).length c1]) (by simp [results, Tryz.results57, go_sem, z0, z1, z2]) rfl ⟨_, rfl, ⟨.slice a2 (digs q.den).length c2, .slice a1 (digs q.num.natAbs).length c1, ?_, ?_, ?_⟩, HK.out.2.2⟩
  · rw [HI.out.2.2.1]
  · rw [HI.out.1]; exact HK.out.1
  · rw [HI.out.2.1]; exact HK.out.2.1
set_option maxHeartbeats 8000000 in
theorem xtimes_at (x y : Rat) (v u : Value) (w : World) (hx : XR w v x) (hy : XR w u y) (l1 : wlen x.num.natAbs ≤ 100000000) (l2 : wlen x.den ≤ 100000000) (l3 : wlen y.num.natAbs ≤ 100000000) (l4 : wlen y.den ≤ 100000000) : Calls Tryz.prog 56 #[v, u] w (XPost w (x * y)) := by
  obtain ⟨a1, c1, a2, c2, rfl, h1, h2⟩ := hx.open_
  obtain ⟨a3, c3, a4, c4, rfl, h3, h4⟩ := hy.open_
  have H1 := Lib.hid h1
  have H2 := Lib.hid h2
  have H3 := Lib.hid h3
  have H4 := Lib.hid h4
  have HQ : Hid (x * y = Rat.normalize (sgn (!(decide (x.num < 0) == decide (y.num < 0))) (x.num.natAbs * y.num.natAbs)) (x.den * y.den) (den_pos x y)) := by
    have : x * y = Rat.normalize (sgn (!(decide (x.num < 0) == decide (y.num < 0))) (x.num.natAbs * y.num.natAbs)) (x.den * y.den) (den_pos x y) := by rw [Rat.mul_def]; exact normalize_congr _ _ (mul_sgn x y)
    exact this
  have HW1 := Lib.hid (Nat.le_trans (wlen_mul x.num.natAbs y.num.natAbs) (by omega : _ ≤ 1000000000))
  have HW2 := Lib.hid (Nat.le_trans (wlen_mul x.den y.den) (by omega : _ ≤ 1000000000))
  clear h1 h2 hx h3 h4 hy
  generalize x * y = Z at *
  generalize decide (x.num < 0) = bx at *
  generalize decide (y.num < 0) = by' at *
  have tok1 : True := trivial
  go_enter Tryz.func56, Tryz.ntmps56
  go_upto_region 1 with (fail)
  refine wp_box3r fun W hsz hbW hA hB hC hF => ?_
  go_region_held3 (S2R W (w.heap.size + 2) w.heap.size #[Value.bool bx, Value.slice a1 (digs x.num.natAbs).length c1, Value.slice a2 (digs x.den).length c2] (w.heap.size + 1) #[Value.bool by', Value.slice a3 (digs y.num.natAbs).length c3, Value.slice a4 (digs y.den).length c4]) (first | exact S2R.start hA hB | exact S2R.ext (by with_reducible assumption) (by with_reducible assumption) (by omega) hA hB | exact S2R.set (S2R.set (S2R.set (by assumption) (by simp) (by omega) (by omega)) (by simp) (by omega) (by omega)) (by simp) (by omega) (by omega) | assumption) (first | (have _t := tok1; go_at_call 42; refine (times_at x.num.natAbs y.num.natAbs _ _ _ (H1.out.ext (S2R.low (by assumption) hbW (by omega))) (H3.out.ext (S2R.low (by assumption) hbW (by omega))) (by omega) (by omega)).mono ?_; rintro e w2 ⟨vn, rfl, hvn, hb2⟩; have hc2 := Lib.hid (ext_trans (Below.refl W.heap.size W).drew hb2); have HVN := Lib.hid hvn; clear tok1 hvn) | (go_at_call 42; refine (times_at x.den y.den _ _ _ (H2.out.ext (S2R.low (by assumption) hbW (by omega))) (H4.out.ext (S2R.low (by assumption) hbW (by omega))) (by omega) (by omega)).mono ?_; rintro e w3 ⟨vd, rfl, hvd, hb3⟩; have hc3 := Lib.hid (ext_trans hc2.out hb3); have HVN3 := Lib.hid (HVN.out.ext hb3); have HVD := Lib.hid hvd; clear hvd) | (go_at_call 44; refine (from_is Z _ _ _ (den_pos x y) HQ.out _ _ _ HVN3.out HVD.out HW1.out HW2.out).mono ?_; rintro e w4 ⟨vq, rfl, hq, hb4⟩; obtain ⟨p1, c5, p2, c6, rfl, k1, k2⟩ := hq.open_; have hc4 := Lib.hid (ext_trans hc3.out hb4); have HK1 := Lib.hid k1; have HK2 := Lib.hid k2; obtain ⟨r0, r1, r2⟩ := boxX (hC.ext hc4.out); have g0 := (hF.ext hC hc4.out) 0; have g1 := (hF.ext hC hc4.out) 1; have g2 := (hF.ext hC hc4.out) 2; clear k1 k2 hq))
  obtain ⟨k1, k2, k3, z0, z1, z2⟩ := res3 (decide (Z.num < 0)) (hC.ext hc4.out) HK1.out HK2.out (ext_trans hbW hc4.out) (by omega)
  have HK := Lib.hid (And.intro k1 (And.intro k2 k3))
  clear k1 k2 k3
  go_wp2
  exact bodyPost_ret (v := .agg #[.bool (decide (Z.num < 0)), .slice p1 (digs Z.num.natAbs).length c5, .slice p2 (digs Z.den).length c6]) (by simp [results, Tryz.results56, go_sem, z0, z1, z2]) rfl ⟨_, rfl, ⟨_, _, rfl, HK.out.1, HK.out.2.1⟩, HK.out.2.2⟩
end Nm
end Go.Proofs.YtiieckboccbhhaaGreatDoor
namespace Go.Proofs.YtiieckboccbhhaaGreatDoor
open Go.RowKit
namespace Nm
theorem two60 : (2 : Nat) ^ 60 = 1152921504606846976 := by decide
theorem choose_small {n k : Nat} (hn : n ≤ 60) : chooseN n k ≤ 1152921504606846976 := by
 have h1 := chooseN_le n k
 have h2 : (2 : Nat) ^ n ≤ 2 ^ 60 := Nat.pow_le_pow_right (by decide) hn
 rw [two60] at h2; omega
theorem wlen_choose {n k : Nat} (hn : n ≤ 60) : wlen (chooseN n k) ≤ 2 := wlen_le (Nat.lt_of_le_of_lt (choose_small hn) (by decide))
set_option maxHeartbeats 1000000 in
theorem mpower_at (n ex : Nat) (hn : n < 4294967296) (ht : ex ≤ 1000000) (w : World) : Calls Tryz.prog 43 #[.int .i64 (n : Int), .int .i64 (ex : Int)] w (NPost w (n ^ ex)) := by
 have hx1 := xnatOf_at 1 (by decide) w
 rw [show ((1 : Nat) : Int) = 1 from rfl] at hx1
 have HX1 := Lib.hid hx1
 clear hx1
 go_enter Tryz.func43, Tryz.ntmps43
 go_wp2_with fail
 refine HX1.out.mono ?_
 rintro e w1 ⟨v, rfl, hv, hb1⟩
 go_wp2
 go_loopw [5, 8] (fun o i wr => ∃ k : Nat, k ≤ ex ∧ i = .int .i64 k ∧ N wr o (n ^ k) ∧ Below w.heap.size w wr) (fun _ i _ => ex - (intOf i).toNat)
 case atStart => exact ⟨0, by omega, rfl, by rw [Nat.pow_zero]; exact hv, hb1⟩
 case round =>
  obtain ⟨k, hk, rfl, ho, hb⟩ := hrel
  clear hv hb1
  by_cases hlt : k < ex
  ·go_wp2_with fail
   refine (xnatOf_at n (by omega) _).mono ?_
   rintro e w2 ⟨v2, rfl, h2, hb2⟩
   have h1 := wlen_pow (show n < B from hn) k
   have h3 := wlen_one (show n < B from hn)
   go_wp2_with fail
   refine (times_at (n ^ k) n _ _ _ (ho.ext hb2) h2 (by omega) (by omega)).mono ?_
   rintro e w3 ⟨v3, rfl, h4, hb3⟩
   have hb4 := ext_trans (ext_trans hb hb2) hb3
   clear ho h2 hb2 hb3 hb
   go_wp2
   go_roundw
   case rel => exact ⟨k + 1, by omega, by go_num, by rw [Nat.pow_succ]; exact h4, hb4⟩
   case measure => simp [intOf]; omega
  ·have hkt : k = ex := by omega
   subst hkt
   go_wp2
   go_ret
   exact ⟨_, rfl, ho, hb⟩
set_option maxHeartbeats 2000000 in
theorem choose_at (n k a : Nat) (hn : n ≤ 60) (ha : a + k = n) (w : World) : Calls Tryz.prog 41 #[.int .i64 (n : Int), .int .i64 (k : Int)] w (NPost w (chooseN n k)) := by
 have hx1 := xnatOf_at 1 (by decide) w
 rw [show ((1 : Nat) : Int) = 1 from rfl] at hx1
 have HX1 := Lib.hid hx1
 have HA := Lib.hid ha
 have hsub : (n : Int) - (k : Int) = (a : Int) := by omega
 have hk : k ≤ 60 := by omega
 have ha60 : a ≤ 60 := by omega
 clear hx1 ha
 go_enter Tryz.func41, Tryz.ntmps41
 go_wp2_with fail
 refine HX1.out.mono ?_
 rintro e w1 ⟨v, rfl, hv, hb1⟩
 go_wp2
 go_loopw [5, 6] (fun o i wr => ∃ j : Nat, 1 ≤ j ∧ j ≤ k + 1 ∧ i = .int .i64 (j : Int) ∧ N wr o (chooseN (a + (j - 1)) (j - 1)) ∧ Below w.heap.size w wr) (fun _ i _ => k + 1 - (intOf i).toNat)
 case atStart => exact ⟨1, by omega, by omega, rfl, by rw [chooseN_zero]; exact hv, hb1⟩
 case round =>
  obtain ⟨j, hj1, hj, rfl, ho, hb⟩ := hrel
  clear hv hb1
  by_cases hlt : j ≤ k
  ·obtain ⟨s, hs⟩ : ∃ s, a + j = s := ⟨_, rfl⟩
   have hs' : (a : Int) + (j : Int) = (s : Int) := by omega
   have HS : Hid (chooseN (a + (j - 1)) (j - 1) * s / j = chooseN (a + j) j) := Lib.hid (by
    have h := choose_div a (j - 1)
    rw [show a + (j - 1) + 1 = s by omega, show j - 1 + 1 = j by omega] at h
    rw [h, ← hs])
   have hs120 : s ≤ 120 := by omega
   have hcl : wlen (chooseN (a + (j - 1)) (j - 1)) ≤ 2 := wlen_choose (by have := HA.out; omega)
   have hsl : wlen s ≤ 1 := wlen_one (show s < B by unfold B; omega)
   generalize chooseN (a + (j - 1)) (j - 1) = x at *
   clear hs
   go_wp2_with fail
   refine (xnatOf_at s (by omega) _).mono ?_
   rintro e w2 ⟨v2, rfl, h2, hb2⟩
   go_wp2_with fail
   refine (times_at x s _ _ _ (ho.ext hb2) h2 (by omega) (by omega)).mono ?_
   rintro e w3 ⟨v3, rfl, h4, hb3⟩
   have hb4 := ext_trans (ext_trans hb hb2) hb3
   have hml := wlen_mul x s
   clear ho h2 hb2 hb3 hb
   go_wp2_with fail
   refine (xnatOf_at j (by omega) _).mono ?_
   rintro e w4 ⟨v4, rfl, h5, hb5⟩
   go_wp2_with fail
   refine (over_at (x * s) j _ _ _ (h4.ext hb5) h5 (by omega) (by omega)).mono ?_
   rintro e w5 ⟨v5, v6, rfl, h6, h7, hb6⟩
   rw [HS.out] at h6
   have hb7 := ext_trans (ext_trans hb4 hb5) hb6
   clear h4 h5 hb5 hb6 hb4 h7 hml
   go_wp2
   go_roundw
   case rel => exact ⟨j + 1, by omega, by omega, by go_num, h6, hb7⟩
   case measure => simp [intOf]; omega
  ·have hkt : j = k + 1 := by omega
   have hv9 : chooseN (a + (j - 1)) (j - 1) = chooseN n k := by rw [hkt, Nat.add_sub_cancel, HA.out]
   rw [hv9] at ho
   clear hv9
   go_wp2
   go_ret
   exact ⟨_, rfl, ho, hb⟩

theorem tailQ_norm (n m k : Nat) (hd : (1000 ^ n : Nat) ≠ 0) : tailQ n m k = Rat.normalize (sgn false (tailN n m k)) (1000 ^ n) hd := by
 rw [Rat.normalize_eq_mkRat, Rat.mkRat_eq_div]; rfl
set_option maxHeartbeats 4000000 in
theorem tail_at (n m k : Nat) (hn : n ≤ 60) (hm : m ≤ 1000) (hk : k ≤ n + 1) (w : World) : Calls Tryz.prog 18 #[.int .i64 (n : Int), .int .i64 (m : Int), .int .i64 (k : Int)] w (XPost w (tailQ n m k)) := by
 obtain ⟨q, hq⟩ : ∃ q, 1000 - m = q := ⟨_, rfl⟩
 have hqi : (1000 : Int) - (m : Int) = (q : Int) := by omega
 have HQ := Lib.hid hq
 have hq1 : q ≤ 1000 := by omega
 clear hq
 go_enter Tryz.func18, Tryz.ntmps18
 go_upto_region 1 with (fail)
 refine wp_box1r fun W hsz hbW hC hF => ?_
 clear hsz
 have hx1 := xnatOf_at 0 (by decide) W
 rw [show ((0 : Nat) : Int) = 0 from rfl] at hx1
 have HX1 := Lib.hid hx1
 clear hx1
 go_wp2_with fail
 refine HX1.out.mono ?_
 rintro e w1 ⟨v, rfl, hv, hb1⟩
 have hC1 := Lib.hid (hC.ext hb1)
 have hF1 := Lib.hid (hF.ext hC hb1)
 have hB1 := Lib.hid (ext_trans hbW hb1)
 have hV1 := Lib.hid hv
 clear hC hF hbW hb1 hv HX1
 go_wp2
 go_loopw [7, 8, 11] (fun o _ i wr => ∃ j : Nat, j ≤ k ∧ i = .int .i64 (j : Int) ∧ Hid (N wr o (tailN n m j)) ∧ Hid (Box wr w.heap.size zeroX) ∧ Hid (Fre wr w.heap.size) ∧ Hid (Below w.heap.size w wr)) (fun _ _ i _ => k - (intOf i).toNat)
 case atStart => exact ⟨0, by omega, rfl, hV1, hC1, hF1, hB1⟩
 case round =>
  clear hV1 hC1 hF1 hB1
  obtain ⟨j, hj, rfl, HN, HC, HF, HB⟩ := hrel
  generalize hX : wr = X at *
  clear hX
  have hlt0 : wlen (tailN n m j) ≤ 61 := Nat.le_trans (wlen_mono (tailN_le n m hm (show j ≤ n + 1 by omega))) (Nat.le_trans (wlen_pow (show 1000 < B by decide) n) (by omega))
  by_cases hlt : j < k
  ·obtain ⟨b, hb⟩ : ∃ b, n - j = b := ⟨_, rfl⟩
   have hbi : (n : Int) - (j : Int) = (b : Int) := by omega
   have hbj : b + j = n := by omega
   have HT : Hid (tailN n m j + chooseN n j * m ^ j * q ^ b = tailN n m (j + 1)) := Lib.hid (by rw [← HQ.out, ← hb]; rfl)
   have hb60 : b ≤ 60 := by omega
   have l1 : wlen (chooseN n j) ≤ 2 := wlen_choose hn
   have l2 := wlen_pow (show m < B by unfold B; omega) j
   have l3 := wlen_pow (show q < B by unfold B; omega) b
   have l4 := wlen_mul (chooseN n j) (m ^ j)
   have l5 := wlen_mul (chooseN n j * m ^ j) (q ^ b)
   have HCH := Lib.hid (fun W9 => choose_at n j b hn hbj W9)
   clear hb hbj
   generalize chooseN n j = c at *
   generalize tailN n m j = x at *
   obtain ⟨x2, hx2⟩ : ∃ z, tailN n m (j + 1) = z := ⟨_, rfl⟩
   rw [hx2] at HT
   have HX2 := Lib.hid hx2
   clear hx2
   go_wp2_with fail
   refine (HCH.out _).mono ?_
   rintro e w2 ⟨v2, rfl, h2, hb2⟩
   have H2 := Lib.hid h2
   have HB2 := Lib.hid hb2
   clear h2 hb2 HCH
   go_wp2_with fail
   refine (mpower_at m j (by omega) (by omega) _).mono ?_
   rintro e w3 ⟨v3, rfl, h3, hb3⟩
   have HP := Lib.hid (fun W9 => mpower_at q b (by omega) (by omega) W9)
   generalize m ^ j = p at *
   generalize q ^ b = r at *
   have H2' := Lib.hid (H2.out.ext hb3)
   have H3 := Lib.hid h3
   have HB3 := Lib.hid (ext_trans HB2.out hb3)
   clear h3 hb3 H2 HB2
   go_wp2_with fail
   refine (times_at c p _ _ _ H2'.out H3.out (by omega) (by omega)).mono ?_
   rintro e w4 ⟨v4, rfl, h4, hb4⟩
   generalize c * p = cp at *
   have H4 := Lib.hid h4
   have HB4 := Lib.hid (ext_trans HB3.out hb4)
   clear h4 hb4 H2' H3 HB3
   go_wp2_with fail
   refine (HP.out _).mono ?_
   rintro e w5 ⟨v5, rfl, h5, hb5⟩
   have H4' := Lib.hid (H4.out.ext hb5)
   have H5 := Lib.hid h5
   have HB5 := Lib.hid (ext_trans HB4.out hb5)
   clear h5 hb5 H4 HB4 HP
   go_wp2_with fail
   refine (times_at cp r _ _ _ H4'.out H5.out (by omega) (by omega)).mono ?_
   rintro e w6 ⟨v6, rfl, h6, hb6⟩
   generalize cp * r = t at *
   have H6 := Lib.hid h6
   have HB6 := Lib.hid (ext_trans HB5.out hb6)
   clear h6 hb6 H4' H5 HB5
   go_wp2_with fail
   refine (add_at x t _ _ _ (HN.out.ext HB6.out) H6.out (by omega) (by omega)).mono ?_
   rintro e w7 ⟨v7, rfl, h7, hb7⟩
   rw [HT.out] at h7
   have H7 := Lib.hid h7
   have HB7 := Lib.hid (ext_trans HB6.out hb7)
   have HC7 := Lib.hid (HC.out.ext HB7.out)
   have HF7 := Lib.hid (HF.out.ext HC.out HB7.out)
   have HL7 := Lib.hid (ext_trans HB.out HB7.out)
   clear h7 hb7 H6 HB6 HB7 HC HF HB HN HT
   go_wp2
   go_roundw
   case rel => exact ⟨j + 1, by omega, by go_num, Lib.hid (by rw [HX2.out]; exact H7.out), HC7, HF7, HL7⟩
   case measure => simp [intOf]; omega
  ·obtain rfl : j = k := by omega
   have hd : (1000 ^ n : Nat) ≠ 0 := by have := Nat.pow_pos (n := n) (show 0 < 1000 by decide); omega
   have HQN := Lib.hid (tailQ_norm n m j hd)
   have lp := wlen_pow (show 1000 < B by decide) n
   have HMP := Lib.hid (fun W9 => mpower_at 1000 n (by omega) (by omega) W9)
   generalize tailQ n m j = z at *
   generalize tailN n m j = x at *
   go_wp2_with fail
   refine (HMP.out _).mono ?_
   rintro e w2 ⟨v2, rfl, h2, hb2⟩
   have HFR := Lib.hid (fun W9 a b => from_is z false x (1000 ^ n) hd HQN.out a b W9)
   generalize (1000 : Nat) ^ n = d at *
   have H2 := Lib.hid h2
   have HN2 := Lib.hid (HN.out.ext hb2)
   have HC2 := Lib.hid (HC.out.ext hb2)
   have HF2 := Lib.hid (HF.out.ext HC.out hb2)
   have HB2 := Lib.hid (ext_trans HB.out hb2)
   clear h2 hb2 HN HC HF HB HMP
   go_wp2_with fail
   refine (HFR.out _ _ _ HN2.out H2.out (by omega) (by omega)).mono ?_
   rintro e w3 ⟨v3, rfl, hx, hb3⟩
   obtain ⟨v1, v2, rfl, hn1, hn2⟩ := hx
   obtain ⟨p1, c5, rfl, _⟩ := hn1.open_
   obtain ⟨p2, c6, rfl, _⟩ := hn2.open_
   have hC3 := HC2.out.ext hb3
   have hF3 := HF2.out.ext HC2.out hb3
   have hbw := ext_trans HB2.out hb3
   have hle : w.heap.size ≤ w.heap.size := Nat.le_refl _
   have g0 := hF3 0
   have g1 := hF3 1
   have g2 := hF3 2
   obtain ⟨r0, r1, r2⟩ := boxX hC3
   obtain ⟨k1, k2, k3, z0, z1, z2⟩ := res3 (decide (z.num < 0)) hC3 hn1 hn2 hbw hle
   have HK := Lib.hid (And.intro k1 (And.intro k2 k3))
   clear k1 k2 k3 hb3 HFR HQN HN2 HC2 HF2 HB2 hC3 hF3 hbw hn1 hn2 hd
   go_wp2
   exact bodyPost_ret (v := .agg #[.bool (decide (z.num < 0)), .slice p1 (digs z.num.natAbs).length c5, .slice p2 (digs z.den).length c6]) (by simp [results, Tryz.results18, go_sem, z0, z1, z2]) rfl ⟨_, rfl, ⟨_, _, rfl, HK.out.1, HK.out.2.1⟩, HK.out.2.2⟩
end Nm
end Go.Proofs.YtiieckboccbhhaaGreatDoor
