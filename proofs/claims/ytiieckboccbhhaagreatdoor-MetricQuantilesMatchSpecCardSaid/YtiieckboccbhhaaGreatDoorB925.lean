/- shut of the reference: a fraction as a ratio, in lowest terms. append onto a row of the call's own, with a word on all cells of the row's block: no program stands in it. Fractions of the reference in memory: three cells, two of them numbers. readMiss of package decide. -/
import Derived.Test.YtiieckboccbhhaaGreatDoorB924
import Derived.Test.YtiieckboccbhhaaGreatDoorB904
import Derived.Maps.AppendAt
import Derived.Test.YtiieckboccbhhaaGreatDoorB909
import Derived.Test.YtiieckboccbhhaaGreatDoorB912
import Derived.Test.YtiieckboccbhhaaGreatDoorB922
namespace Go.Proofs.YtiieckboccbhhaaGreatDoor
open Go.RowKit
namespace Nt
open _root_.Go.Proofs.YtiieckboccbhhaaGreatDoor.Nm (decS decv Digs decv_decS rF rQ sgn outN outD outF Fits showN showD numL AnsPost norm_abs norm_den norm_neg)
theorem res2s {w0 w : World} {b : Nat} {x0 x1 : Value} (u0 u1 : Value) (hC : Box w b #[x0, x1]) (hb : Below w0.heap.size w0 w) (hle : w0.heap.size ≤ b) :
    Below w0.heap.size w0 ((w.setCell ⟨b, 0, none⟩ u0).setCell ⟨b, 1, none⟩ u1) ∧ ((w.setCell ⟨b, 0, none⟩ u0).setCell ⟨b, 1, none⟩ u1).cell? ⟨b, 0, none⟩ = some u0 ∧ ((w.setCell ⟨b, 0, none⟩ u0).setCell ⟨b, 1, none⟩ u1).cell? ⟨b, 1, none⟩ = some u1 := by
  have e0 : (w.setCell ⟨b, 0, none⟩ u0).cell? ⟨b, 0, none⟩ = some u0 := World.cell?_setCell_same _ _ _ (hC.2 0)
  have e1 : (w.setCell ⟨b, 0, none⟩ u0).cell? ⟨b, 1, none⟩ = some x1 := by rw [World.cell?_setCell_other _ _ _ _ (by simp)]; exact hC.2 1
  refine ⟨(hb.setCell hle _).setCell hle _, ?_, World.cell?_setCell_same _ _ _ e1⟩
  rw [World.cell?_setCell_other _ _ _ _ (by simp)]; exact e0
theorem boxn_cell {w : World} {b : Nat} {A : Array Value} (h : Box w b A) {j : Nat} (hj : j < A.size) (u : Value) : Box (w.setCell ⟨b, j, none⟩ u) b (A.setIfInBounds j u) := by
  refine ⟨by simpa [World.setCell] using h.1, fun i => ?_⟩
  by_cases e : i = j
  · subst e
    rw [World.cell?_setCell_same _ _ _ ((h.2 i).trans (Array.getElem?_eq_getElem hj))]
    simp [hj]
  · rw [World.cell?_setCell_other _ _ _ _ (by intro e'; cases e'; exact e rfl), h.2 i, Array.getElem?_setIfInBounds_ne (fun e' => e e'.symm)]
theorem boxn_other {w : World} {b b' : Nat} {A : Array Value} (h : Box w b A) (hne : b ≠ b') (j : Nat) (u : Value) : Box (w.setCell ⟨b', j, none⟩ u) b A :=
  ⟨by simpa [World.setCell] using h.1, fun i => by rw [World.cell?_setCell_other _ _ _ _ (by intro e; cases e; exact hne rfl)]; exact h.2 i⟩
theorem out_lowest (b : Bool) (n d : Nat) (hd : d ≠ 0) :
    (4000 < (decS (n / n.gcd d)).length ∨ 4000 < (decS (d / n.gcd d)).length → outN (Rat.normalize (sgn b n) d hd) = ⟨#[]⟩ ∧ outD (Rat.normalize (sgn b n) d hd) = ⟨#[]⟩ ∧ outF (Rat.normalize (sgn b n) d hd) = 2) ∧
    (¬ (4000 < (decS (n / n.gcd d)).length ∨ 4000 < (decS (d / n.gcd d)).length) → outN (Rat.normalize (sgn b n) d hd) = strOf (if b && decide (0 < n / n.gcd d) then 45 :: decS (n / n.gcd d) else decS (n / n.gcd d)) ∧ outD (Rat.normalize (sgn b n) d hd) = strOf (decS (d / n.gcd d)) ∧ outF (Rat.normalize (sgn b n) d hd) = 0) := by
  have e1 := norm_abs b n d hd
  have e2 := norm_den b n d hd
  have e3 := norm_neg b n d hd
  have hf : Fits (Rat.normalize (sgn b n) d hd) ↔ ¬ (4000 < (decS (n / n.gcd d)).length ∨ 4000 < (decS (d / n.gcd d)).length) := by
    unfold Fits; rw [e1, e2]; omega
  constructor
  · intro h
    have hn : ¬ Fits (Rat.normalize (sgn b n) d hd) := fun h' => hf.1 h' h
    unfold outN outD outF
    rw [if_neg hn, if_neg hn, if_neg hn]; exact ⟨rfl, rfl, rfl⟩
  · intro h
    have hy := hf.2 h
    unfold outN outD outF
    rw [if_pos hy, if_pos hy, if_pos hy]
    refine ⟨?_, ?_, rfl⟩
    · unfold showN numL
      rw [e1]
      by_cases hb : (Rat.normalize (sgn b n) d hd).num < 0
      · rw [if_pos hb]
        rw [decide_eq_true hb] at e3
        rw [← e3]; rfl
      · rw [if_neg hb]
        rw [decide_eq_false hb] at e3
        rw [← e3]; rfl
    · unfold showD; rw [e2]; rfl
theorem cat45' (l : List UInt8) : (⟨#[45]⟩ : ByteArray) ++ strOf l = strOf (45 :: l) := Nm.cat45 l
set_option maxRecDepth 100000 in
set_option maxHeartbeats 16000000 in
theorem shut_at (b : Bool) (n d : Nat) (hd : d ≠ 0) (v1 v2 : Value) (w : World) (hN1 : N w v1 n) (hN2 : N w v2 d) (hnl : wlen n ≤ 100000000) (hdl : wlen d ≤ 100000000) (ht : Tab w) :
    Calls Tryz.prog 74 #[.agg #[.bool b, v1, v2]] w (AnsPost w (outN (Rat.normalize (sgn b n) d hd)) (outD (Rat.normalize (sgn b n) d hd)) (outF (Rat.normalize (sgn b n) d hd))) := by
  have HO := Lib.hid (out_lowest b n d hd)
  generalize Rat.normalize (sgn b n) d hd = q at *
  have hg0 : 0 < n.gcd d := Nat.gcd_pos_of_pos_right _ (Nat.pos_of_ne_zero hd)
  have hgl : wlen (n.gcd d) ≤ 100000000 := gcd_wlen hnl hdl
  have hq1 : wlen (n / n.gcd d) ≤ 100000000 := Nat.le_trans (wlen_mono (Nat.div_le_self _ _)) hnl
  have hq2 : wlen (d / n.gcd d) ≤ 100000000 := Nat.le_trans (wlen_mono (Nat.div_le_self _ _)) hdl
  obtain ⟨g, hg⟩ : ∃ g, n.gcd d = g := ⟨_, rfl⟩
  have HG := Lib.hid hg
  rw [hg] at hg0 hgl hq1 hq2 HO
  clear hg hd
  obtain ⟨a1, c1, rfl, s1⟩ := hN1.open_
  obtain ⟨a2, c2, rfl, s2⟩ := hN2.open_
  have H1 := Lib.hid hN1
  have H2 := Lib.hid hN2
  clear hN1 hN2 s1 s2
  go_enter Tryz.func74, Tryz.ntmps74
  go_upto_region 1 with (fail)
  refine wp_box2r fun W hsz hbW hA hC hF => ?_
  have h1 := H1.out.ext hbW
  have h2 := H2.out.ext hbW
  have HT := Lib.hid (ht.ext hbW)
  clear hsz H1 H2 ht
  have a0 : W.cell? ⟨w.heap.size, 0, none⟩ = some (.bool b) := hA.2 0
  have a1' : W.cell? ⟨w.heap.size, 1, none⟩ = some (.slice a1 (digs n).length c1) := hA.2 1
  have a2' : W.cell? ⟨w.heap.size, 2, none⟩ = some (.slice a2 (digs d).length c2) := hA.2 2
  have HX := Lib.hid (And.intro hA (And.intro hC (And.intro hF (And.intro h1 (And.intro h2 hbW)))))
  clear hA hC hF h1 h2 hbW
  go_wp2_with fail
  refine (divisor_at n d _ _ W HX.out.2.2.2.1 HX.out.2.2.2.2.1 (by omega) (by omega)).mono ?_
  rw [HG.out]
  rintro e w1 ⟨vg, rfl, hvg, hb1⟩
  obtain ⟨ag, cg, rfl, _⟩ := hvg.open_
  have hX1 := HX.out
  have hA1 := hX1.1.ext hb1
  have hC1 := hX1.2.1.ext hb1
  have hF1 := hX1.2.2.1.ext hX1.2.1 hb1
  have n1 := hX1.2.2.2.1.ext hb1
  have n2 := hX1.2.2.2.2.1.ext hb1
  have hbw1 := ext_trans hX1.2.2.2.2.2 hb1
  have HT1 := Lib.hid (HT.out.ext hb1)
  clear a0 a1' a2' hX1 HX hb1 HT
  have a0 : w1.cell? ⟨w.heap.size, 0, none⟩ = some (.bool b) := hA1.2 0
  have a1' : w1.cell? ⟨w.heap.size, 1, none⟩ = some (.slice a1 (digs n).length c1) := hA1.2 1
  have a2' : w1.cell? ⟨w.heap.size, 2, none⟩ = some (.slice a2 (digs d).length c2) := hA1.2 2
  have HX := Lib.hid (And.intro hA1 (And.intro hC1 (And.intro hF1 (And.intro n2 hbw1))))
  have HN := Lib.hid n1
  have HV := Lib.hid hvg
  clear hA1 hC1 hF1 n1 n2 hbw1 hvg
  go_wp2_with fail
  refine (divide_at n g _ _ w1 HN.out HV.out (by omega) hg0).mono ?_
  rintro e w2 ⟨vn, vr, rfl, hvn, hvr, hb2⟩
  clear hvr
  obtain ⟨an, cn, rfl, _⟩ := hvn.open_
  have hX1 := HX.out
  have hA1 := hX1.1.ext hb2
  have hC1 := hX1.2.1.ext hb2
  have hF1 := hX1.2.2.1.ext hX1.2.1 hb2
  have n2 := hX1.2.2.2.1.ext hb2
  have hbw1 := ext_trans hX1.2.2.2.2 hb2
  have hg2 := HV.out.ext hb2
  have HT2 := Lib.hid (HT1.out.ext hb2)
  clear a0 a1' a2' hX1 HX hb2 HT1 HN HV
  have a0 : w2.cell? ⟨w.heap.size, 0, none⟩ = some (.bool b) := hA1.2 0
  have a2' : w2.cell? ⟨w.heap.size, 2, none⟩ = some (.slice a2 (digs d).length c2) := hA1.2 2
  have HX := Lib.hid (And.intro hA1 (And.intro hC1 (And.intro hF1 hbw1)))
  have HN := Lib.hid n2
  have HV := Lib.hid hg2
  have HVN := Lib.hid hvn
  clear hA1 hC1 hF1 n2 hbw1 hg2 hvn
  go_wp2_with fail
  refine (divide_at d g _ _ w2 HN.out HV.out (by omega) hg0).mono ?_
  rintro e w3 ⟨vd, vr2, rfl, hvd, hvr, hb3⟩
  clear hvr
  obtain ⟨ad, cd, rfl, _⟩ := hvd.open_
  have hX1 := HX.out
  have hA1 := hX1.1.ext hb3
  have hC1 := hX1.2.1.ext hb3
  have hF1 := hX1.2.2.1.ext hX1.2.1 hb3
  have hbw1 := ext_trans hX1.2.2.2 hb3
  have hn3 := HVN.out.ext hb3
  have HT3 := Lib.hid (HT2.out.ext hb3)
  clear a0 a2' hX1 HX hb3 HT2 HN HV HVN
  have HX := Lib.hid (And.intro hA1 (And.intro hC1 (And.intro hF1 (And.intro hvd hbw1))))
  have HN := Lib.hid hn3
  obtain ⟨n', hn'⟩ : ∃ x, n / g = x := ⟨_, rfl⟩
  obtain ⟨d', hd'⟩ : ∃ x, d / g = x := ⟨_, rfl⟩
  rw [hn'] at HO HN hq1 ⊢
  rw [hd'] at HO HX hq2 ⊢
  clear hA1 hC1 hF1 hvd hbw1 hn3 hn' hd'
  go_wp2_with fail
  refine (text_at n' _ w3 HN.out (by omega) HT3.out).mono ?_
  rintro e w4 ⟨rfl, hb4⟩
  have HT4 := Lib.hid (HT3.out.ext hb4)
  have HD4 := Lib.hid (HX.out.2.2.2.1.ext hb4)
  go_wp2_with fail
  refine (text_at d' _ w4 HD4.out (by omega) HT4.out).mono ?_
  rintro e w5 ⟨rfl, hb5⟩
  have hb45 := ext_trans hb4 hb5
  have hX1 := HX.out
  have hA1 := hX1.1.ext hb45
  have hC1 := hX1.2.1.ext hb45
  have hF1 := hX1.2.2.1.ext hX1.2.1 hb45
  have hbw1 := ext_trans hX1.2.2.2.2 hb45
  clear hX1 HX HN HT3 HT4 HD4 hb4 hb5 hb45
  go_upto_region 5 with (fail)
  refine wp_box1r fun w6 hsz6 hb6 hR6 hRF6 => ?_
  clear hsz6
  have hA6 := hA1.ext hb6
  have hC6 := hC1.ext hb6
  have hF6 := hF1.ext hC1 hb6
  have hbw6 := ext_trans hbw1 hb6
  have hlt6 : w.heap.size + 1 < w5.heap.size := hC1.1
  clear hA1 hC1 hF1 hbw1 hb6
  generalize w5.heap.size = br at *
  have hsn : (strOf (decS n')).size = (decS n').length := strOf_size _
  have hsd : (strOf (decS d')).size = (decS d').length := strOf_size _
  have HSN := Lib.hid (And.intro hsn hsd)
  have x0 : w6.cell? ⟨br, 0, none⟩ = some (.string (strOf (decS n'))) := hR6.2 0
  have x1 : w6.cell? ⟨br, 1, none⟩ = some (.string (strOf (decS d'))) := hR6.2 1
  have r0 : w6.cell? ⟨w.heap.size + 1, 0, none⟩ = some (.string ⟨#[]⟩) := hC6.2 0
  have r1 : w6.cell? ⟨w.heap.size + 1, 1, none⟩ = some (.string ⟨#[]⟩) := hC6.2 1
  have a0 : w6.cell? ⟨w.heap.size, 0, none⟩ = some (.bool b) := hA6.2 0
  have g0 := hF6 0
  have g1 := hF6 1
  have hdn : (digs n').length = wlen n' := rfl
  by_cases hbig : 4000 < (decS n').length ∨ 4000 < (decS d').length
  · have HP := Lib.hid (HO.out.1 hbig)
    have HR := Lib.hid (res2s (.string ⟨#[]⟩) (.string ⟨#[]⟩) hC6 hbw6 (Nat.le_succ _))
    obtain ⟨hbF, z0, z1⟩ := id HR.out
    clear hbF HO hdn
    by_cases hb1 : 4000 < (decS n').length
    · clear hbig
      go_wp2
      refine bodyPost_ret (v := .tuple #[.agg #[.string ⟨#[]⟩, .string ⟨#[]⟩], .int .i64 2]) (by simp [results, Tryz.results74, go_sem, z0, z1]) rfl ⟨?_, HR.out.1⟩
      rw [HP.out.1, HP.out.2.1, HP.out.2.2]
    · have hb2 : 4000 < (decS d').length := by omega
      clear hbig
      go_wp2
      refine bodyPost_ret (v := .tuple #[.agg #[.string ⟨#[]⟩, .string ⟨#[]⟩], .int .i64 2]) (by simp [results, Tryz.results74, go_sem, z0, z1]) rfl ⟨?_, HR.out.1⟩
      rw [HP.out.1, HP.out.2.1, HP.out.2.2]
  · have HP := Lib.hid (HO.out.2 hbig)
    have hb1 : (decS n').length ≤ 4000 := by omega
    have hb2 : (decS d').length ≤ 4000 := by omega
    clear hbig HO
    cases b with
    | false =>
      have HR := Lib.hid (res2s (.string (strOf (decS n'))) (.string (strOf (decS d'))) hC6 hbw6 (Nat.le_succ _))
      obtain ⟨hbF, z0, z1⟩ := id HR.out
      clear hbF hdn
      go_wp2
      refine bodyPost_ret (v := .tuple #[.agg #[.string (strOf (decS n')), .string (strOf (decS d'))], .int .i64 0]) (by simp [results, Tryz.results74, go_sem, z0, z1]) rfl ⟨?_, HR.out.1⟩
      rw [HP.out.1, HP.out.2.1, HP.out.2.2]; rfl
    | true =>
      by_cases hn0 : 0 < n'
      · have hl0 : 0 < (digs n').length := by have := @wlen_eq_zero n'; unfold wlen at this; omega
        have HC45 := Lib.hid (cat45' (decS n'))
        have HPN : Hid (outN q = strOf (45 :: decS n')) := by
          have h := HP.out.1
          rw [decide_eq_true hn0] at h
          exact h
        have f0 := hRF6 0
        have HN0 := Lib.hid hn0
        have HBX := Lib.hid (And.intro hC6 (And.intro hR6 (And.intro hF6 hbw6)))
        clear hn0 hdn
        go_upto_region 9 with (fail)
        rw [HC45.out]
        obtain ⟨w7, hw7⟩ : ∃ w7, w7 = w6.setCell ⟨br, 0, none⟩ (.string (strOf (45 :: decS n'))) := ⟨_, rfl⟩
        rw [← hw7]
        have hC7 : Box w7 (w.heap.size + 1) #[.string ⟨#[]⟩, .string ⟨#[]⟩] := by rw [hw7]; exact boxn_other HBX.out.1 (Nat.ne_of_lt hlt6) 0 _
        have hR7 : Box w7 br #[.string (strOf (45 :: decS n')), .string (strOf (decS d'))] := by rw [hw7]; exact boxn_cell HBX.out.2.1 (j := 0) (by simp) (.string (strOf (45 :: decS n')))
        have hbw7 : Below w.heap.size w w7 := by rw [hw7]; exact HBX.out.2.2.2.setCell (p := ⟨br, 0, none⟩) (show w.heap.size ≤ br by omega) _
        have hF7 : Fre w7 (w.heap.size + 1) := by rw [hw7]; intro j; rw [World.frozen?_setCell]; exact HBX.out.2.2.1 j
        clear hw7 x0 x1 r0 r1 a0 g0 g1 f0 HBX
        have HR := Lib.hid (res2s (.string (strOf (45 :: decS n'))) (.string (strOf (decS d'))) hC7 hbw7 (Nat.le_succ _))
        obtain ⟨hbF, z0, z1⟩ := id HR.out
        have x0 : w7.cell? ⟨br, 0, none⟩ = some (.string (strOf (45 :: decS n'))) := hR7.2 0
        have x1 : w7.cell? ⟨br, 1, none⟩ = some (.string (strOf (decS d'))) := hR7.2 1
        have r0 : w7.cell? ⟨w.heap.size + 1, 0, none⟩ = some (.string ⟨#[]⟩) := hC7.2 0
        have r1 : w7.cell? ⟨w.heap.size + 1, 1, none⟩ = some (.string ⟨#[]⟩) := hC7.2 1
        have g0 := hF7 0
        have g1 := hF7 1
        clear hbF
        go_wp2
        refine bodyPost_ret (v := .tuple #[.agg #[.string (strOf (45 :: decS n')), .string (strOf (decS d'))], .int .i64 0]) (by simp [results, Tryz.results74, go_sem, z0, z1]) rfl ⟨?_, HR.out.1⟩
        rw [HPN.out, HP.out.2.1, HP.out.2.2]
      · have hl0 : (digs n').length = 0 := by have := @wlen_eq_zero n'; unfold wlen at this; omega
        have HPN : Hid (outN q = strOf (decS n')) := by
          have h := HP.out.1
          rw [decide_eq_false hn0] at h
          exact h
        have HR := Lib.hid (res2s (.string (strOf (decS n'))) (.string (strOf (decS d'))) hC6 hbw6 (Nat.le_succ _))
        obtain ⟨hbF, z0, z1⟩ := id HR.out
        clear hbF hn0 hdn
        go_wp2
        refine bodyPost_ret (v := .tuple #[.agg #[.string (strOf (decS n')), .string (strOf (decS d'))], .int .i64 0]) (by simp [results, Tryz.results74, go_sem, z0, z1]) rfl ⟨?_, HR.out.1⟩
        rw [HPN.out, HP.out.2.1, HP.out.2.2]
end Nt
end Go.Proofs.YtiieckboccbhhaaGreatDoor
namespace Go.Proofs.YtiieckboccbhhaaGreatDoor
open Go.RowKit
/-- all cells of the block in which the slice's row lies are such -/
def RowQ (Q : Value → Prop) (w : World) (v : Value) : Prop := ∀ g, v.ownBlock = some g → ∀ (j : Nat) (u : Value), w.cell? ⟨g, j, none⟩ = some u → Q u
theorem RowQ.nil (Q : Value → Prop) (w : World) : RowQ Q w (.slice none 0 0) := fun g e => by cases e
theorem RowQ.ext {Q : Value → Prop} {w w' : World} {base e size n : Nat} {v : Value} {xs : List Value} (h : RowQ Q w v) (ho : w.ownsRow base e size v n xs) (hb : Below w.heap.size w w') : RowQ Q w' v := fun g hg j u hu =>
  h g hg j u ((hb.cell (p := ⟨g, j, none⟩) (ho.lt g hg).2).symm.trans hu)
end Go.Proofs.YtiieckboccbhhaaGreatDoor
namespace Go.Proofs.YtiieckboccbhhaaGreatDoor
open Go.RowKit
namespace Nt
structure F3 where
  b : Bool
  a1 : Option Addr
  n1 : Nat
  c1 : Nat
  a2 : Option Addr
  n2 : Nat
  c2 : Nat
def f3L (t : F3) : List Value := [.bool t.b, .slice t.a1 t.n1 t.c1, .slice t.a2 t.n2 t.c2]
structure FX (w : World) (t : F3) (n d : Nat) : Prop where
  num : N w (.slice t.a1 t.n1 t.c1) n
  den : N w (.slice t.a2 t.n2 t.c2) d
theorem FX.ext {w w' : World} {t : F3} {n d : Nat} (h : FX w t n d) (hb : Below w.heap.size w w') : FX w' t n d := ⟨h.num.ext hb, h.den.ext hb⟩
/-- no cell is a digit of a number -/
def NI (u : Value) : Prop := isI u = false
def NoI (A : Array Value) : Prop := ∀ (j : Nat) (u : Value), A[j]? = some u → isI u = false
theorem N.far {w w' : World} {b : Nat} {A : Array Value} {v : Value} {n : Nat} (h : N w v n) (hA : Box w b A) (hn : NoI A) (hk : ∀ p : Addr, p.block ≠ b → w'.cell? p = w.cell? p) : N w' v n := h.keepBox hA hn hk
theorem FX.far {w w' : World} {b : Nat} {A : Array Value} {t : F3} {n d : Nat} (h : FX w t n d) (hA : Box w b A) (hn : NoI A) (hk : ∀ p : Addr, p.block ≠ b → w'.cell? p = w.cell? p) : FX w' t n d := ⟨h.num.far hA hn hk, h.den.far hA hn hk⟩
theorem sl_keepQ {Q : Value → Prop} {w w' : World} {v r : Value} {n : Nat} {cs : List Value} (h : Sl w v n cs) (hq : ∀ u ∈ cs, ¬ Q u) (hR : RowQ Q w r) (hg : w.grownBy w' r.ownBlock) : Sl w' v n cs := by
  obtain ⟨a, cap, hv, h1, h2, h0, h3⟩ := h
  refine ⟨a, cap, hv, h1, h2, h0, fun i x hx => ?_⟩
  obtain ⟨b, o, ha, hc⟩ := h3 i x hx
  refine ⟨b, o, ha, hg.cell hc (fun e => ?_)⟩
  exact hq x (List.mem_of_getElem? hx) (hR b e.symm _ _ hc)
theorem N.keepQ {w w' : World} {v r : Value} {n : Nat} (h : N w v n) (hR : RowQ NI w r) (hg : w.grownBy w' r.ownBlock) : N w' v n := by
  refine sl_keepQ h (fun u hu hw => ?_) hR hg
  simp only [wcs, List.mem_map] at hu
  obtain ⟨c, _, rfl⟩ := hu
  cases hw
theorem FX.keepQ {w w' : World} {t : F3} {r : Value} {n d : Nat} (h : FX w t n d) (hR : RowQ NI w r) (hg : w.grownBy w' r.ownBlock) : FX w' t n d := ⟨h.num.keepQ hR hg, h.den.keepQ hR hg⟩
theorem cs_other' {w : World} {b o : Nat} {v : Value} {p : Addr} (hp : p.block ≠ b) : (w.setCell ⟨b, o, none⟩ v).cell? p = w.cell? p := World.cell?_setCell_other _ _ _ _ (fun e => hp (by rw [← e]))
theorem wp_frs1 {P : Program} {c : Code} {Q : Exit → Act → World → Prop} {a : Act} {w : World} {A : Array Value} {t : TypeId}
    (h : ∀ W, Below w.heap.size w W → RH W w.heap.size A t → c.wp P Q a W) : c.wp P Q a (w.alloc (.cells A t)) := h _ (ext_alloc _ _) (RH.new _ _ _)
/-- whole numbers from 0 on, in a list -/
structure WL (w : World) (ts : List F3) (l : List Nat) : Prop where
  len : ts.length = l.length
  ok : ∀ (i : Nat) t n, ts[i]? = some t → l[i]? = some n → t.b = false ∧ FX w t n 1
theorem WL.ext {w w' : World} {ts : List F3} {l : List Nat} (h : WL w ts l) (hb : Below w.heap.size w w') : WL w' ts l := ⟨h.len, fun i t n h1 h2 => ⟨(h.ok i t n h1 h2).1, (h.ok i t n h1 h2).2.ext hb⟩⟩
theorem WL.keepQ {w w' : World} {ts : List F3} {l : List Nat} {r : Value} (h : WL w ts l) (hR : RowQ NI w r) (hg : w.grownBy w' r.ownBlock) : WL w' ts l := ⟨h.len, fun i t n h1 h2 => ⟨(h.ok i t n h1 h2).1, (h.ok i t n h1 h2).2.keepQ hR hg⟩⟩
theorem WL.nil (w : World) : WL w [] [] := ⟨rfl, fun i t n h => by simp at h⟩
/-- a row of fractions of the call's own -/
structure OF (wr : World) (base : Nat) (v : Value) (ts : List F3) : Prop where
  own : wr.ownsRow base 48 3 v ts.length (ts.flatMap f3L)
  q : RowQ NI wr v
theorem OF.ext {wr w' : World} {base : Nat} {v : Value} {ts : List F3} (h : OF wr base v ts) (hb : Below wr.heap.size wr w') : OF w' base v ts := ⟨ownsRow_ext h.own hb, h.q.ext h.own hb⟩
end Nt
end Go.Proofs.YtiieckboccbhhaaGreatDoor
namespace Go.Proofs.YtiieckboccbhhaaGreatDoor
open Go.RowKit
namespace Nm
theorem zero_is (q : Rat) (b : Bool) (hb : decide (q.num = 0) = b) (v : Value) (w : World) (hx : XR w v q) : Calls Tryz.prog 54 #[v] w (BPost w b) := by
  subst hb; exact zero_at q v w hx
theorem xcmp_is (x y : Rat) (z : Int) (hz : cmpQ x y = z) (v u : Value) (w : World) (hx : XR w v x) (hy : XR w u y) (l1 : wlen x.num.natAbs ≤ 100000000) (l2 : wlen x.den ≤ 100000000) (l3 : wlen y.num.natAbs ≤ 100000000) (l4 : wlen y.den ≤ 100000000) : Calls Tryz.prog 25 #[v, u] w (CmpPost w z) := by
  subst hz; exact xcmp_at x y v u w hx hy l1 l2 l3 l4
/-- a miss: between 0 and 1 -/
def okM (q : Rat) : Bool := decide (0 < q.num) && decide (cmpQ q ((1 : Int) : Rat) = -1)
def missF (n d : ByteArray) : Int := if rF n d ≠ 0 then rF n d else if okM (rQ n d) = false then 1 else if longB n d = true then 2 else 0
def MissPost (w : World) (n d : ByteArray) (e : Ending) (w' : World) : Prop := ∃ b a1 n1 c1 a2 n2 c2, e = .returned (.tuple #[.agg #[.bool b, .slice a1 n1 c1, .slice a2 n2 c2], .int .i64 (missF n d)]) ∧ (missF n d = 0 → XR w' (.agg #[.bool b, .slice a1 n1 c1, .slice a2 n2 c2]) (rQ n d)) ∧ Below w.heap.size w w'
end Nm
end Go.Proofs.YtiieckboccbhhaaGreatDoor
