/- shut of the reference: a fraction as a ratio, in lowest terms. A quotient of two ints: plain. both, amountOf, RatioOf of the reference. Inverse of the reference. -/
import Derived.Test.YtemenlcigengeaaGreatDoorTq32
import Derived.Test.YtemenlcigengeaaGreatDoorTq16
namespace Go.Proofs.YtemenlcigengeaaGreatDoor
open Go.RowKit
namespace Nt
open _root_.Go.Proofs.YtemenlcigengeaaGreatDoor.Nm (decS decv Digs decv_decS rF rQ sgn outN outD outF Fits showN showD numL AnsPost norm_abs norm_den norm_neg)
theorem res2s {w0 w : World} {b : Nat} {x0 x1 : Value} (u0 u1 : Value) (hC : Box w b #[x0, x1]) (hb : Below w0.heap.size w0 w) (hle : w0.heap.size ≤ b) :
    Below w0.heap.size w0 ((w.setCell ⟨b, 0, none⟩ u0).setCell ⟨b, 1, none⟩ u1) ∧ ((w.setCell ⟨b, 0, none⟩ u0).setCell ⟨b, 1, none⟩ u1).cell? ⟨b, 0, none⟩ = some u0 ∧ ((w.setCell ⟨b, 0, none⟩ u0).setCell ⟨b, 1, none⟩ u1).cell? ⟨b, 1, none⟩ = some u1 := by
  have e0 : (w.setCell ⟨b, 0, none⟩ u0).cell? ⟨b, 0, none⟩ = some u0 := World.cell?_setCell_same _ _ _ (hC.2 0)
  have e1 : (w.setCell ⟨b, 0, none⟩ u0).cell? ⟨b, 1, none⟩ = some x1 := by rw [World.cell?_setCell_other _ _ _ _ (by simp)]; exact hC.2 1
  refine ⟨(hb.setCell hle _).setCell hle _, ?_, World.cell?_setCell_same _ _ _ e1⟩
  rw [World.cell?_setCell_other _ _ _ _ (by simp)]; exact e0
theorem boxn_cell {w : World} {b : Nat} {A : Array Value} (h : Box w b A) {j : Nat} (hj : j < A.size) (u : Value) : Box (w.setCell ⟨b, j, none⟩ u) b (A.setIfInBounds j u) := by
  refine ⟨by simpa [World.setCell] using h.1, fun i => ?_⟩
  by_cases e : i = j
  · subst e
    rw [World.cell?_setCell_same _ _ _ ((h.2 i).trans (Array.getElem?_eq_getElem hj))]
    simp [hj]
  · rw [World.cell?_setCell_other _ _ _ _ (by intro e'; cases e'; exact e rfl), h.2 i, Array.getElem?_setIfInBounds_ne (fun e' => e e'.symm)]
theorem boxn_other {w : World} {b b' : Nat} {A : Array Value} (h : Box w b A) (hne : b ≠ b') (j : Nat) (u : Value) : Box (w.setCell ⟨b', j, none⟩ u) b A :=
  ⟨by simpa [World.setCell] using h.1, fun i => by rw [World.cell?_setCell_other _ _ _ _ (by intro e; cases e; exact hne rfl)]; exact h.2 i⟩
theorem out_lowest (b : Bool) (n d : Nat) (hd : d ≠ 0) :
    (4000 < (decS (n / n.gcd d)).length ∨ 4000 < (decS (d / n.gcd d)).length → outN (Rat.normalize (sgn b n) d hd) = ⟨#[]⟩ ∧ outD (Rat.normalize (sgn b n) d hd) = ⟨#[]⟩ ∧ outF (Rat.normalize (sgn b n) d hd) = 2) ∧
    (¬ (4000 < (decS (n / n.gcd d)).length ∨ 4000 < (decS (d / n.gcd d)).length) → outN (Rat.normalize (sgn b n) d hd) = strOf (if b && decide (0 < n / n.gcd d) then 45 :: decS (n / n.gcd d) else decS (n / n.gcd d)) ∧ outD (Rat.normalize (sgn b n) d hd) = strOf (decS (d / n.gcd d)) ∧ outF (Rat.normalize (sgn b n) d hd) = 0) := by
  have e1 := norm_abs b n d hd
  have e2 := norm_den b n d hd
  have e3 := norm_neg b n d hd
  have hf : Fits (Rat.normalize (sgn b n) d hd) ↔ ¬ (4000 < (decS (n / n.gcd d)).length ∨ 4000 < (decS (d / n.gcd d)).length) := by
    unfold Fits; rw [e1, e2]; omega
  constructor
  · intro h
    have hn : ¬ Fits (Rat.normalize (sgn b n) d hd) := fun h' => hf.1 h' h
    unfold outN outD outF
    rw [if_neg hn, if_neg hn, if_neg hn]; exact ⟨rfl, rfl, rfl⟩
  · intro h
    have hy := hf.2 h
    unfold outN outD outF
    rw [if_pos hy, if_pos hy, if_pos hy]
    refine ⟨?_, ?_, rfl⟩
    · unfold showN numL
      rw [e1]
      by_cases hb : (Rat.normalize (sgn b n) d hd).num < 0
      · rw [if_pos hb]
        rw [decide_eq_true hb] at e3
        rw [← e3]; rfl
      · rw [if_neg hb]
        rw [decide_eq_false hb] at e3
        rw [← e3]; rfl
    · unfold showD; rw [e2]; rfl
theorem cat45' (l : List UInt8) : (⟨#[45]⟩ : ByteArray) ++ strOf l = strOf (45 :: l) := Nm.cat45 l
set_option maxRecDepth 100000 in
set_option maxHeartbeats 16000000 in
theorem shut_at (b : Bool) (n d : Nat) (hd : d ≠ 0) (v1 v2 : Value) (w : World) (hN1 : N w v1 n) (hN2 : N w v2 d) (hnl : wlen n ≤ 100000000) (hdl : wlen d ≤ 100000000) (ht : Tab w) :
    Calls Tryz.prog 88 #[.agg #[.bool b, v1, v2]] w (AnsPost w (outN (Rat.normalize (sgn b n) d hd)) (outD (Rat.normalize (sgn b n) d hd)) (outF (Rat.normalize (sgn b n) d hd))) := by
  have HO := Lib.hid (out_lowest b n d hd)
  generalize Rat.normalize (sgn b n) d hd = q at *
  have hg0 : 0 < n.gcd d := Nat.gcd_pos_of_pos_right _ (Nat.pos_of_ne_zero hd)
  have hgl : wlen (n.gcd d) ≤ 100000000 := gcd_wlen hnl hdl
  have hq1 : wlen (n / n.gcd d) ≤ 100000000 := Nat.le_trans (wlen_mono (Nat.div_le_self _ _)) hnl
  have hq2 : wlen (d / n.gcd d) ≤ 100000000 := Nat.le_trans (wlen_mono (Nat.div_le_self _ _)) hdl
  obtain ⟨g, hg⟩ : ∃ g, n.gcd d = g := ⟨_, rfl⟩
  have HG := Lib.hid hg
  rw [hg] at hg0 hgl hq1 hq2 HO
  clear hg hd
  obtain ⟨a1, c1, rfl, s1⟩ := hN1.open_
  obtain ⟨a2, c2, rfl, s2⟩ := hN2.open_
  have H1 := Lib.hid hN1
  have H2 := Lib.hid hN2
  clear hN1 hN2 s1 s2
  go_enter Tryz.func88, Tryz.ntmps88
  go_upto_region 1 with (fail)
  refine wp_box2r fun W hsz hbW hA hC hF => ?_
  have h1 := H1.out.ext hbW
  have h2 := H2.out.ext hbW
  have HT := Lib.hid (ht.ext hbW)
  clear hsz H1 H2 ht
  have a0 : W.cell? ⟨w.heap.size, 0, none⟩ = some (.bool b) := hA.2 0
  have a1' : W.cell? ⟨w.heap.size, 1, none⟩ = some (.slice a1 (digs n).length c1) := hA.2 1
  have a2' : W.cell? ⟨w.heap.size, 2, none⟩ = some (.slice a2 (digs d).length c2) := hA.2 2
  have HX := Lib.hid (And.intro hA (And.intro hC (And.intro hF (And.intro h1 (And.intro h2 hbW)))))
  clear hA hC hF h1 h2 hbW
  go_wp2_with fail
  refine (divisor_at n d _ _ W HX.out.2.2.2.1 HX.out.2.2.2.2.1 (by omega) (by omega)).mono ?_
  rw [HG.out]
  rintro e w1 ⟨vg, rfl, hvg, hb1⟩
  obtain ⟨ag, cg, rfl, _⟩ := hvg.open_
  have hX1 := HX.out
  have hA1 := hX1.1.ext hb1
  have hC1 := hX1.2.1.ext hb1
  have hF1 := hX1.2.2.1.ext hX1.2.1 hb1
  have n1 := hX1.2.2.2.1.ext hb1
  have n2 := hX1.2.2.2.2.1.ext hb1
  have hbw1 := ext_trans hX1.2.2.2.2.2 hb1
  have HT1 := Lib.hid (HT.out.ext hb1)
  clear a0 a1' a2' hX1 HX hb1 HT
  have a0 : w1.cell? ⟨w.heap.size, 0, none⟩ = some (.bool b) := hA1.2 0
  have a1' : w1.cell? ⟨w.heap.size, 1, none⟩ = some (.slice a1 (digs n).length c1) := hA1.2 1
  have a2' : w1.cell? ⟨w.heap.size, 2, none⟩ = some (.slice a2 (digs d).length c2) := hA1.2 2
  have HX := Lib.hid (And.intro hA1 (And.intro hC1 (And.intro hF1 (And.intro n2 hbw1))))
  have HN := Lib.hid n1
  have HV := Lib.hid hvg
  clear hA1 hC1 hF1 n1 n2 hbw1 hvg
  go_wp2_with fail
  refine (divide_at n g _ _ w1 HN.out HV.out (by omega) hg0).mono ?_
  rintro e w2 ⟨vn, vr, rfl, hvn, hvr, hb2⟩
  clear hvr
  obtain ⟨an, cn, rfl, _⟩ := hvn.open_
  have hX1 := HX.out
  have hA1 := hX1.1.ext hb2
  have hC1 := hX1.2.1.ext hb2
  have hF1 := hX1.2.2.1.ext hX1.2.1 hb2
  have n2 := hX1.2.2.2.1.ext hb2
  have hbw1 := ext_trans hX1.2.2.2.2 hb2
  have hg2 := HV.out.ext hb2
  have HT2 := Lib.hid (HT1.out.ext hb2)
  clear a0 a1' a2' hX1 HX hb2 HT1 HN HV
  have a0 : w2.cell? ⟨w.heap.size, 0, none⟩ = some (.bool b) := hA1.2 0
  have a2' : w2.cell? ⟨w.heap.size, 2, none⟩ = some (.slice a2 (digs d).length c2) := hA1.2 2
  have HX := Lib.hid (And.intro hA1 (And.intro hC1 (And.intro hF1 hbw1)))
  have HN := Lib.hid n2
  have HV := Lib.hid hg2
  have HVN := Lib.hid hvn
  clear hA1 hC1 hF1 n2 hbw1 hg2 hvn
  go_wp2_with fail
  refine (divide_at d g _ _ w2 HN.out HV.out (by omega) hg0).mono ?_
  rintro e w3 ⟨vd, vr2, rfl, hvd, hvr, hb3⟩
  clear hvr
  obtain ⟨ad, cd, rfl, _⟩ := hvd.open_
  have hX1 := HX.out
  have hA1 := hX1.1.ext hb3
  have hC1 := hX1.2.1.ext hb3
  have hF1 := hX1.2.2.1.ext hX1.2.1 hb3
  have hbw1 := ext_trans hX1.2.2.2 hb3
  have hn3 := HVN.out.ext hb3
  have HT3 := Lib.hid (HT2.out.ext hb3)
  clear a0 a2' hX1 HX hb3 HT2 HN HV HVN
  have HX := Lib.hid (And.intro hA1 (And.intro hC1 (And.intro hF1 (And.intro hvd hbw1))))
  have HN := Lib.hid hn3
  obtain ⟨n', hn'⟩ : ∃ x, n / g = x := ⟨_, rfl⟩
  obtain ⟨d', hd'⟩ : ∃ x, d / g = x := ⟨_, rfl⟩
  rw [hn'] at HO HN hq1 ⊢
  rw [hd'] at HO HX hq2 ⊢
  clear hA1 hC1 hF1 hvd hbw1 hn3 hn' hd'
  go_wp2_with fail
  refine (text_at n' _ w3 HN.out (by omega) HT3.out).mono ?_
  rintro e w4 ⟨rfl, hb4⟩
  have HT4 := Lib.hid (HT3.out.ext hb4)
  have HD4 := Lib.hid (HX.out.2.2.2.1.ext hb4)
  go_wp2_with fail
  refine (text_at d' _ w4 HD4.out (by omega) HT4.out).mono ?_
  rintro e w5 ⟨rfl, hb5⟩
  have hb45 := ext_trans hb4 hb5
  have hX1 := HX.out
  have hA1 := hX1.1.ext hb45
  have hC1 := hX1.2.1.ext hb45
  have hF1 := hX1.2.2.1.ext hX1.2.1 hb45
  have hbw1 := ext_trans hX1.2.2.2.2 hb45
  clear hX1 HX HN HT3 HT4 HD4 hb4 hb5 hb45
  go_upto_region 5 with (fail)
  refine wp_box1r fun w6 hsz6 hb6 hR6 hRF6 => ?_
  clear hsz6
  have hA6 := hA1.ext hb6
  have hC6 := hC1.ext hb6
  have hF6 := hF1.ext hC1 hb6
  have hbw6 := ext_trans hbw1 hb6
  have hlt6 : w.heap.size + 1 < w5.heap.size := hC1.1
  clear hA1 hC1 hF1 hbw1 hb6
  generalize w5.heap.size = br at *
  have hsn : (strOf (decS n')).size = (decS n').length := strOf_size _
  have hsd : (strOf (decS d')).size = (decS d').length := strOf_size _
  have HSN := Lib.hid (And.intro hsn hsd)
  have x0 : w6.cell? ⟨br, 0, none⟩ = some (.string (strOf (decS n'))) := hR6.2 0
  have x1 : w6.cell? ⟨br, 1, none⟩ = some (.string (strOf (decS d'))) := hR6.2 1
  have r0 : w6.cell? ⟨w.heap.size + 1, 0, none⟩ = some (.string ⟨#[]⟩) := hC6.2 0
  have r1 : w6.cell? ⟨w.heap.size + 1, 1, none⟩ = some (.string ⟨#[]⟩) := hC6.2 1
  have a0 : w6.cell? ⟨w.heap.size, 0, none⟩ = some (.bool b) := hA6.2 0
  have g0 := hF6 0
  have g1 := hF6 1
  have hdn : (digs n').length = wlen n' := rfl
  by_cases hbig : 4000 < (decS n').length ∨ 4000 < (decS d').length
  · have HP := Lib.hid (HO.out.1 hbig)
    have HR := Lib.hid (res2s (.string ⟨#[]⟩) (.string ⟨#[]⟩) hC6 hbw6 (Nat.le_succ _))
    obtain ⟨hbF, z0, z1⟩ := id HR.out
    clear hbF HO hdn
    by_cases hb1 : 4000 < (decS n').length
    · clear hbig
      go_wp2
      refine bodyPost_ret (v := .tuple #[.agg #[.string ⟨#[]⟩, .string ⟨#[]⟩], .int .i64 2]) (by simp [results, Tryz.results88, go_sem, z0, z1]) rfl ⟨?_, HR.out.1⟩
      rw [HP.out.1, HP.out.2.1, HP.out.2.2]
    · have hb2 : 4000 < (decS d').length := by omega
      clear hbig
      go_wp2
      refine bodyPost_ret (v := .tuple #[.agg #[.string ⟨#[]⟩, .string ⟨#[]⟩], .int .i64 2]) (by simp [results, Tryz.results88, go_sem, z0, z1]) rfl ⟨?_, HR.out.1⟩
      rw [HP.out.1, HP.out.2.1, HP.out.2.2]
  · have HP := Lib.hid (HO.out.2 hbig)
    have hb1 : (decS n').length ≤ 4000 := by omega
    have hb2 : (decS d').length ≤ 4000 := by omega
    clear hbig HO
    cases b with
    | false =>
      have HR := Lib.hid (res2s (.string (strOf (decS n'))) (.string (strOf (decS d'))) hC6 hbw6 (Nat.le_succ _))
      obtain ⟨hbF, z0, z1⟩ := id HR.out
      clear hbF hdn
      go_wp2
      refine bodyPost_ret (v := .tuple #[.agg #[.string (strOf (decS n')), .string (strOf (decS d'))], .int .i64 0]) (by simp [results, Tryz.results88, go_sem, z0, z1]) rfl ⟨?_, HR.out.1⟩
      rw [HP.out.1, HP.out.2.1, HP.out.2.2]; rfl
    | true =>
      by_cases hn0 : 0 < n'
      · have hl0 : 0 < (digs n').length := by have := @wlen_eq_zero n'; unfold wlen at this; omega
        have HC45 := Lib.hid (cat45' (decS n'))
        have HPN : Hid (outN q = strOf (45 :: decS n')) := by
          have h := HP.out.1
          rw [decide_eq_true hn0] at h
          exact h
        have f0 := hRF6 0
        have HN0 := Lib.hid hn0
        have HBX := Lib.hid (And.intro hC6 (And.intro hR6 (And.intro hF6 hbw6)))
        clear hn0 hdn
        go_upto_region 9 with (fail)
        rw [HC45.out]
        obtain ⟨w7, hw7⟩ : ∃ w7, w7 = w6.setCell ⟨br, 0, none⟩ (.string (strOf (45 :: decS n'))) := ⟨_, rfl⟩
        rw [← hw7]
        have hC7 : Box w7 (w.heap.size + 1) #[.string ⟨#[]⟩, .string ⟨#[]⟩] := by rw [hw7]; exact boxn_other HBX.out.1 (Nat.ne_of_lt hlt6) 0 _
        have hR7 : Box w7 br #[.string (strOf (45 :: decS n')), .string (strOf (decS d'))] := by rw [hw7]; exact boxn_cell HBX.out.2.1 (j := 0) (by simp) (.string (strOf (45 :: decS n')))
        have hbw7 : Below w.heap.size w w7 := by rw [hw7]; exact HBX.out.2.2.2.setCell (p := ⟨br, 0, none⟩) (show w.heap.size ≤ br by omega) _
        have hF7 : Fre w7 (w.heap.size + 1) := by rw [hw7]; intro j; rw [World.frozen?_setCell]; exact HBX.out.2.2.1 j
        clear hw7 x0 x1 r0 r1 a0 g0 g1 f0 HBX
        have HR := Lib.hid (res2s (.string (strOf (45 :: decS n'))) (.string (strOf (decS d'))) hC7 hbw7 (Nat.le_succ _))
        obtain ⟨hbF, z0, z1⟩ := id HR.out
        have x0 : w7.cell? ⟨br, 0, none⟩ = some (.string (strOf (45 :: decS n'))) := hR7.2 0
        have x1 : w7.cell? ⟨br, 1, none⟩ = some (.string (strOf (decS d'))) := hR7.2 1
        have r0 : w7.cell? ⟨w.heap.size + 1, 0, none⟩ = some (.string ⟨#[]⟩) := hC7.2 0
        have r1 : w7.cell? ⟨w.heap.size + 1, 1, none⟩ = some (.string ⟨#[]⟩) := hC7.2 1
        have g0 := hF7 0
        have g1 := hF7 1
        clear hbF
        go_wp2
        refine bodyPost_ret (v := .tuple #[.agg #[.string (strOf (45 :: decS n')), .string (strOf (decS d'))], .int .i64 0]) (by simp [results, Tryz.results88, go_sem, z0, z1]) rfl ⟨?_, HR.out.1⟩
        rw [HPN.out, HP.out.2.1, HP.out.2.2]
      · have hl0 : (digs n').length = 0 := by have := @wlen_eq_zero n'; unfold wlen at this; omega
        have HPN : Hid (outN q = strOf (decS n')) := by
          have h := HP.out.1
          rw [decide_eq_false hn0] at h
          exact h
        have HR := Lib.hid (res2s (.string (strOf (decS n'))) (.string (strOf (decS d'))) hC6 hbw6 (Nat.le_succ _))
        obtain ⟨hbF, z0, z1⟩ := id HR.out
        clear hbF hn0 hdn
        go_wp2
        refine bodyPost_ret (v := .tuple #[.agg #[.string (strOf (decS n')), .string (strOf (decS d'))], .int .i64 0]) (by simp [results, Tryz.results88, go_sem, z0, z1]) rfl ⟨?_, HR.out.1⟩
        rw [HPN.out, HP.out.2.1, HP.out.2.2]
end Nt
end Go.Proofs.YtemenlcigengeaaGreatDoor
namespace Go.Proofs.YtemenlcigengeaaGreatDoor
namespace Nm
/-- a quotient of two ints -/
def quoQ (a b : Int) : Rat := if h : b = 0 then 0 else Rat.normalize (sgn (decide (a < 0) != decide (b < 0)) a.natAbs) b.natAbs (by omega)
def quoN (a b : Int) : ByteArray := if b = 0 then ⟨#[]⟩ else outN (quoQ a b)
def quoD (a b : Int) : ByteArray := if b = 0 then ⟨#[]⟩ else outD (quoQ a b)
def quoF (a b : Int) : Int := if b = 0 then 14 else outF (quoQ a b)
end Nm
end Go.Proofs.YtemenlcigengeaaGreatDoor
namespace Go.Proofs.YtemenlcigengeaaGreatDoor
open Go.RowKit
namespace Nt
open _root_.Go.Proofs.YtemenlcigengeaaGreatDoor.Nm (rF rQ sgn outN outD outF AnsPost bF quoQ quoN quoD quoF)
set_option maxHeartbeats 4000000 in
theorem refBoth_at (n1 d1 n2 d2 : ByteArray) (h1 : n1.size ≤ maxLen) (h2 : d1.size ≤ maxLen) (h3 : n2.size ≤ maxLen) (h4 : d2.size ≤ maxLen) (w : World) (ht : Tab w) : Calls Tryz.prog 84 #[.agg #[.string n1, .string d1], .agg #[.string n2, .string d2]] w (CPost w (bF n1 d1 n2 d2)) := by
  have HBF : Hid (bF n1 d1 n2 d2 = if rF n1 d1 ≠ 0 then rF n1 d1 else rF n2 d2) := Lib.hid rfl
  go_enter Tryz.func84, Tryz.ntmps84
  go_upto_region 1 with (fail)
  refine wp_box2 fun W hsz hbW hA hC => ?_
  have HT := Lib.hid (ht.ext hbW)
  clear hsz ht
  have a0 : W.cell? ⟨w.heap.size, 0, none⟩ = some (.string n1) := hA.2 0
  have a1 : W.cell? ⟨w.heap.size, 1, none⟩ = some (.string d1) := hA.2 1
  clear hA
  go_wp2_with fail
  refine (refCheck_at n1 d1 h1 h2 W HT.out).mono ?_
  rintro e w1 ⟨rfl, hb1⟩
  have hC1 := hC.ext hb1
  have hbw1 := ext_trans hbW hb1
  have HT1 := Lib.hid (HT.out.ext hb1)
  clear a0 a1 hC hbW hb1 HT
  by_cases hf : rF n1 d1 = 0
  · have HR : Hid (bF n1 d1 n2 d2 = rF n2 d2) := by
      have := HBF.out; rw [if_neg (by simp [hf])] at this; exact this
    have hne : (rF n1 d1 != 0) = false := by simp [hf]
    clear HBF hf
    have a0 : w1.cell? ⟨w.heap.size + 1, 0, none⟩ = some (.string n2) := hC1.2 0
    have a1 : w1.cell? ⟨w.heap.size + 1, 1, none⟩ = some (.string d2) := hC1.2 1
    clear hC1
    go_wp2_with fail
    refine (refCheck_at n2 d2 h3 h4 w1 HT1.out).mono ?_
    rintro e w2 ⟨rfl, hb2⟩
    go_wp2
    go_ret
    exact ⟨ret_int HR.out.symm, ext_trans hbw1 hb2⟩
  · have HR : Hid (bF n1 d1 n2 d2 = rF n1 d1) := by
      have := HBF.out; rw [if_pos hf] at this; exact this
    have hne : (rF n1 d1 != 0) = true := by simp [hf]
    clear HBF hf hC1
    go_wp2
    go_ret
    exact ⟨ret_int HR.out.symm, hbw1⟩
set_option maxHeartbeats 4000000 in
theorem amountOf_at (n : Int) (h1 : -9223372036854775808 ≤ n) (h2 : n ≤ 9223372036854775807) (w : World) : Calls Tryz.prog 89 #[.int .i64 n] w (NPost w n.natAbs) := by
  by_cases hn : 0 ≤ n
  · obtain ⟨k, rfl⟩ : ∃ k : Nat, n = (k : Int) := ⟨n.toNat, by omega⟩
    rw [Int.natAbs_natCast]
    go_enter Tryz.func89, Tryz.ntmps89
    go_wp2_with fail
    refine (small_at k (by omega) w).mono ?_
    rintro e w1 ⟨v, rfl, hv, hb⟩
    go_wp2
    go_ret
    exact ⟨_, rfl, hv, hb⟩
  · obtain ⟨k, hk⟩ : ∃ k : Nat, -(n + 1) = (k : Int) := ⟨(-(n + 1)).toNat, by omega⟩
    have HA : Hid (n.natAbs = k + 1) := by
      have : n.natAbs = k + 1 := by omega
      exact this
    have hkk : k ≤ 9223372036854775807 := by omega
    have hn' : n < 0 := by omega
    go_enter Tryz.func89, Tryz.ntmps89
    go_wp2_with fail
    clear hk
    refine (small_at k (by omega) w).mono ?_
    rintro e w1 ⟨v, rfl, hv, hb⟩
    have HV := Lib.hid hv
    clear hv
    go_wp2_with fail
    refine (small_at 1 (by omega) w1).mono ?_
    rintro e w2 ⟨v2, rfl, hv2, hb2⟩
    have hl1 : wlen k ≤ 1000000000 := by
      have h1 : wlen k ≤ 3 := wlen_le (Nat.lt_of_le_of_lt hkk (by decide))
      omega
    have hl2 : wlen 1 ≤ 1000000000 := by
      have h1 : wlen 1 ≤ 1 := wlen_le (by decide)
      omega
    have hv1 := HV.out.ext hb2
    have hbw2 := ext_trans hb hb2
    go_wp2_with fail
    refine (plus_at k 1 _ _ w2 hv1 hv2 hl1 hl2).mono ?_
    rintro e w3 ⟨v3, rfl, hv3, hb3⟩
    rw [← HA.out] at hv3
    go_wp2
    go_ret
    exact ⟨_, rfl, hv3, ext_trans hbw2 hb3⟩
theorem natAbs_wlen {n : Int} (h1 : -9223372036854775808 ≤ n) (h2 : n ≤ 9223372036854775807) : wlen n.natAbs ≤ 3 := wlen_le (Nat.lt_of_le_of_lt (show n.natAbs ≤ 9223372036854775808 by omega) (by decide))
set_option maxRecDepth 100000 in
set_option maxHeartbeats 8000000 in
theorem refRatioOf_at (a b : Int) (h1 : -9223372036854775808 ≤ a) (h2 : a ≤ 9223372036854775807) (h3 : -9223372036854775808 ≤ b) (h4 : b ≤ 9223372036854775807) (w : World) (ht : Tab w) : Calls Tryz.prog 60 #[.int .i64 a, .int .i64 b] w (AnsPost w (quoN a b) (quoD a b) (quoF a b)) := by
  go_enter Tryz.func60, Tryz.ntmps60
  go_upto_region 1 with (fail)
  refine wp_box1r fun W hsz hbW hC hF => ?_
  have HT := Lib.hid (ht.ext hbW)
  clear hsz ht
  by_cases hb0 : b = 0
  · have HP : Hid (quoN a b = ⟨#[]⟩ ∧ quoD a b = ⟨#[]⟩ ∧ quoF a b = 14) := by
      have : quoN a b = ⟨#[]⟩ ∧ quoD a b = ⟨#[]⟩ ∧ quoF a b = 14 := by unfold quoN quoD quoF; rw [if_pos hb0, if_pos hb0, if_pos hb0]; exact ⟨rfl, rfl, rfl⟩
      exact this
    have hz : ((b : Int) == 0) = true := by simp [hb0]
    clear hb0
    have HR := Lib.hid (res2s (.string ⟨#[]⟩) (.string ⟨#[]⟩) hC hbW (Nat.le_refl _))
    obtain ⟨hbF, z0, z1⟩ := id HR.out
    have r0 : W.cell? ⟨w.heap.size, 0, none⟩ = some (.string ⟨#[]⟩) := hC.2 0
    have r1 : W.cell? ⟨w.heap.size, 1, none⟩ = some (.string ⟨#[]⟩) := hC.2 1
    have g0 := hF 0
    have g1 := hF 1
    clear hbF
    go_wp2
    refine bodyPost_ret (v := .tuple #[.agg #[.string ⟨#[]⟩, .string ⟨#[]⟩], .int .i64 14]) (by simp [results, Tryz.results60, go_sem, z0, z1]) rfl ⟨?_, HR.out.1⟩
    rw [HP.out.1, HP.out.2.1, HP.out.2.2]
  · have hz : ((b : Int) == 0) = false := by simpa using hb0
    have hbn : b.natAbs ≠ 0 := by omega
    obtain ⟨q, HQ⟩ : ∃ q, Hid (q = Rat.normalize (sgn (decide (a < 0) != decide (b < 0)) a.natAbs) b.natAbs hbn) := ⟨_, rfl⟩
    have HP : Hid (quoN a b = outN q ∧ quoD a b = outD q ∧ quoF a b = outF q) := by
      have e : quoQ a b = q := by rw [HQ.out]; unfold quoQ; rw [dif_neg hb0]
      have : quoN a b = outN q ∧ quoD a b = outD q ∧ quoF a b = outF q := by unfold quoN quoD quoF; rw [if_neg hb0, if_neg hb0, if_neg hb0, e]; exact ⟨rfl, rfl, rfl⟩
      exact this
    have hla := natAbs_wlen h1 h2
    have hlb := natAbs_wlen h3 h4
    have HL := Lib.hid (And.intro hbn (And.intro hla hlb))
    clear hb0 hla hlb
    obtain ⟨x, hx⟩ : ∃ x, decide (a < 0) = x := ⟨_, rfl⟩
    obtain ⟨y, hy⟩ : ∃ y, decide (b < 0) = y := ⟨_, rfl⟩
    have HXY := Lib.hid (And.intro hx hy)
    clear hx hy
    go_wp2_with fail
    refine (amountOf_at a h1 h2 W).mono ?_
    rintro e w1 ⟨v1, rfl, hv1, hb1⟩
    obtain ⟨p1, c1, rfl, _⟩ := hv1.open_
    have HV1 := Lib.hid hv1
    clear hv1
    go_wp2_with fail
    refine (amountOf_at b h3 h4 w1).mono ?_
    rintro e w2 ⟨v2, rfl, hv2, hb2⟩
    obtain ⟨p2, c2, rfl, _⟩ := hv2.open_
    have hb12 := ext_trans hb1 hb2
    have hC2 := hC.ext hb12
    have hF2 := hF.ext hC hb12
    have hbw2 := ext_trans hbW hb12
    have HT2 := Lib.hid (HT.out.ext hb12)
    have HV := Lib.hid (And.intro (HV1.out.ext hb2) hv2)
    have HB := Lib.hid (And.intro hC2 (And.intro hF2 hbw2))
    clear hC hF hbW hb1 hb2 hb12 hC2 hF2 hbw2 hv2 HV1 HT
    go_wp2_with fail
    have HSH := Lib.hid (shut_at (decide (a < 0) != decide (b < 0)) a.natAbs b.natAbs HL.out.1 _ _ w2 HV.out.1 HV.out.2 (by have := HL.out.2.1; omega) (by have := HL.out.2.2; omega) HT2.out)
    rw [← HQ.out] at HSH
    refine HSH.out.mono ?_
    rintro e w3 ⟨rfl, hb3⟩
    have hC3 := HB.out.1.ext hb3
    have hF3 := HB.out.2.1.ext HB.out.1 hb3
    have hbw3 := ext_trans HB.out.2.2 hb3
    clear HB hb3 HSH HV
    have HR := Lib.hid (res2s (.string (outN q)) (.string (outD q)) hC3 hbw3 (Nat.le_refl _))
    obtain ⟨hbF, z0, z1⟩ := id HR.out
    have r0 : w3.cell? ⟨w.heap.size, 0, none⟩ = some (.string ⟨#[]⟩) := hC3.2 0
    have r1 : w3.cell? ⟨w.heap.size, 1, none⟩ = some (.string ⟨#[]⟩) := hC3.2 1
    have g0 := hF3 0
    have g1 := hF3 1
    clear hbF
    go_wp2
    refine bodyPost_ret (v := .tuple #[.agg #[.string (outN q), .string (outD q)], .int .i64 (outF q)]) (by simp [results, Tryz.results60, go_sem, z0, z1]) rfl ⟨?_, HR.out.1⟩
    rw [HP.out.1, HP.out.2.1, HP.out.2.2]
end Nt
end Go.Proofs.YtemenlcigengeaaGreatDoor
namespace Go.Proofs.YtemenlcigengeaaGreatDoor
open Go.RowKit
namespace Nt
open _root_.Go.Proofs.YtemenlcigengeaaGreatDoor.Nm (rF rQ sgn outN outD outF AnsPost bF rQ_facts inv_facts sgn_self cutS cutB)
theorem small_digs9 {n d : ByteArray} (h : rF n d = 0) : wlen (rQ n d).num.natAbs ≤ 4000 ∧ wlen (rQ n d).den ≤ 4000 := by
  obtain ⟨_, h2, h3, h4, h5, h6, h7, _⟩ := rQ_facts h
  have l1 : (cutS n).data.toList.length = (cutS n).size := Array.length_toList
  have l2 : d.data.toList.length = d.size := Array.length_toList
  refine ⟨?_, ?_⟩
  · rw [h2, Nm.sgn_natAbs]; exact wlen_dec9 (whole_digs h4) (by omega)
  · rw [h3]; exact wlen_dec9 (whole_digs h5) (by omega)
theorem open_is (n d : ByteArray) (hn : n.size ≤ maxLen) (h : rF n d = 0) (w : World) : Calls Tryz.prog 85 #[.agg #[.string n, .string d]] w (FrPost w (decide ((rQ n d).num < 0)) (rQ n d).num.natAbs (rQ n d).den) := by
  obtain ⟨_, h2, h3, h4, h5, h6, h7, h8⟩ := rQ_facts h
  have := open_at n d hn (whole_digs h4) (whole_digs h5) h6 h7 w
  rw [h8, h2, h3, Nm.sgn_natAbs]
  exact this
end Nt
end Go.Proofs.YtemenlcigengeaaGreatDoor
