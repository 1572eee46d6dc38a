/- side of the reference: the capitals of bets on up. Printed by gen_side.py. Together of both. Printed by gen_sevt.py. -/
import Derived.Test.YtemenlcigengeaaGreatDoorTq36
import Derived.Test.YtemenlcigengeaaGreatDoorTq41
import Derived.Test.YtemenlcigengeaaGreatDoorTq48
import Derived.Test.YtemenlcigengeaaGreatDoorTq05
import Derived.Test.YtemenlcigengeaaGreatDoorTq40
import Derived.Test.YtemenlcigengeaaGreatDoorTq00
import Derived.Test.YtemenlcigengeaaGreatDoorTq16
import Derived.Test.YtemenlcigengeaaGreatDoorTq45
import Derived.Test.YtemenlcigengeaaGreatDoorProg
import Derived.Test.YtemenlcigengeaaGreatDoorTq17
import Derived.Test.YtemenlcigengeaaGreatDoorTq06
import Derived.Test.YtemenlcigengeaaGreatDoorTq03
import Derived.Test.YtemenlcigengeaaGreatDoorTq07
import Derived.Test.YtemenlcigengeaaGreatDoorTq08
import Derived.Test.YtemenlcigengeaaGreatDoorTq18
import Derived.Test.YtemenlcigengeaaGreatDoorTq19
import Derived.Test.YtemenlcigengeaaGreatDoorTq20
import Derived.Test.YtemenlcigengeaaGreatDoorTq21
import Derived.Test.YtemenlcigengeaaGreatDoorTq37
import Derived.Test.YtemenlcigengeaaGreatDoorTq43
import Derived.Test.YtemenlcigengeaaGreatDoorTq42
namespace Go.Proofs.YtemenlcigengeaaGreatDoor
open Go.RowKit
namespace Nm
end Nm
namespace Nt
open _root_.Go.Proofs.YtemenlcigengeaaGreatDoor.Nm (showN showD Fits fits_int Ln AnsPost quoN quoD quoF)
theorem times_is (p q r : Rat) (h : p * q = r) (hp : Fits p) (hq : Fits q) (hs : Fits r) (w : World) (ht : Tab w) : Calls Tryz.prog 50 #[rtV p, rtV q] w (RtP w r) := by subst h; exact mTimesQ p q hp hq hs w ht
theorem plus_is (p q r : Rat) (h : p + q = r) (hp : Fits p) (hq : Fits q) (hs : Fits r) (w : World) (ht : Tab w) : Calls Tryz.prog 49 #[rtV p, rtV q] w (RtP w r) := by subst h; exact mPlusQ p q hp hq hs w ht
theorem over_is (p q r : Rat) (h : p / q = r) (hp : Fits p) (hq : Fits q) (h0 : q ≠ 0) (hs : Fits r) (w : World) (ht : Tab w) : Calls Tryz.prog 51 #[rtV p, rtV q] w (RtP w r) := by subst h; exact mOverQ p q hp hq h0 hs w ht
theorem whole_is (z : Int) (n : Nat) (hz : z = (n : Int)) (hn : n ≤ 9223372036854775807) (w : World) (ht : Tab w) : Calls Tryz.prog 26 #[.int .i64 z] w (RtP w ((n : Nat) : Rat)) := by
  subst hz
  have h := mWholeQ (n : Int) (by omega) (by omega) w ht
  rw [Rat.intCast_natCast] at h
  exact h
end Nt
end Go.Proofs.YtemenlcigengeaaGreatDoor
namespace Go.Proofs.YtemenlcigengeaaGreatDoor
open Go.RowKit
namespace Nm
/-- the numbers of a list of ratios, multiplied -/
def mulL (a : Rat) : List RT → Rat
  | [] => a
  | r :: t => mulL (a * rQ r.n r.d) t
theorem mulL_step {l : List RT} {k : Nat} {r : RT} (h : l[k]? = some r) (a : Rat) : mulL a (l.drop k) = mulL (a * rQ r.n r.d) (l.drop (k + 1)) := by
  obtain ⟨hk, rfl⟩ := List.getElem?_eq_some_iff.1 h
  rw [List.drop_eq_getElem_cons hk]; rfl
def togN (l : List RT) : ByteArray := if allF l = 0 then showN (mulL 1 l) else ⟨#[]⟩
def togD (l : List RT) : ByteArray := if allF l = 0 then showD (mulL 1 l) else ⟨#[]⟩
theorem xr_keep3 {w : World} {b : Nat} {A : Array Value} {v : Value} {q : Rat} (h : XR w v q) (hA : Box w b A) (hn : ∀ (j : Nat) (u : Value), A[j]? = some u → isWord u = false) (v0 v1 v2 : Value) : XR (((w.setCell ⟨b, 0, none⟩ v0).setCell ⟨b, 1, none⟩ v1).setCell ⟨b, 2, none⟩ v2) v q := by
  obtain ⟨x1, x2, h0, h1, h2⟩ := h
  exact ⟨x1, x2, h0, h1.keepBox hA hn (set3_other _ _ _), h2.keepBox hA hn (set3_other _ _ _)⟩
theorem frz3 {w : World} {b : Nat} (v0 v1 v2 : Value) (p : Addr) : (((w.setCell ⟨b, 0, none⟩ v0).setCell ⟨b, 1, none⟩ v1).setCell ⟨b, 2, none⟩ v2).frozen? p = w.frozen? p := by
  rw [World.frozen?_setCell, World.frozen?_setCell, World.frozen?_setCell]
theorem ybox_set3 {w : World} {b : Nat} {t : Y3} (h : Box w b (y3C t)) (t' : Y3) : Box (((w.setCell ⟨b, 0, none⟩ (.bool t'.b)).setCell ⟨b, 1, none⟩ (.slice t'.a1 t'.n1 t'.c1)).setCell ⟨b, 2, none⟩ (.slice t'.a2 t'.n2 t'.c2)) b (y3C t') := by
  refine ⟨by simp; exact h.1, fun j => ?_⟩
  obtain ⟨e0, e1, e2⟩ := three_set (.bool t'.b) (.slice t'.a1 t'.n1 t'.c1) (.slice t'.a2 t'.n2 t'.c2) (h.2 0) (h.2 1) (h.2 2)
  match j with
  | 0 => exact e0
  | 1 => exact e1
  | 2 => exact e2
  | j + 3 =>
    have h3 := h.2 (j + 3)
    rw [World.cell?_setCell_other _ _ _ _ (by simp), World.cell?_setCell_other _ _ _ _ (by simp), World.cell?_setCell_other _ _ _ _ (by simp), h3]
    simp [y3C]
theorem acc_set {w : World} {b : Nat} {t : Y3} (t' : Y3) {s : Rat} (h : Box w b (y3C t)) (hF : Fre w b) (hx : XR w (y3V t') s) : Acc (((w.setCell ⟨b, 0, none⟩ (.bool t'.b)).setCell ⟨b, 1, none⟩ (.slice t'.a1 t'.n1 t'.c1)).setCell ⟨b, 2, none⟩ (.slice t'.a2 t'.n2 t'.c2)) b s :=
  ⟨⟨t', ybox_set3 h t', xr_keep3 hx h (y3_nw t) _ _ _⟩, fun j => by rw [frz3]; exact hF j⟩
theorem ybox_other {w : World} {b b' : Nat} {A : Array Value} (h : Box w b' A) (hne : b ≠ b') (v0 v1 v2 : Value) : Box (((w.setCell ⟨b, 0, none⟩ v0).setCell ⟨b, 1, none⟩ v1).setCell ⟨b, 2, none⟩ v2) b' A :=
  ⟨by simp; exact h.1, fun j => by rw [World.cell?_setCell_other _ _ _ _ (by intro e; exact hne (by cases e; rfl)), World.cell?_setCell_other _ _ _ _ (by intro e; exact hne (by cases e; rfl)), World.cell?_setCell_other _ _ _ _ (by intro e; exact hne (by cases e; rfl))]; exact h.2 j⟩
theorem acc_other {w : World} {b b' : Nat} {t : Y3} {s : Rat} (h : Acc w b' s) (hB : Box w b (y3C t)) (hne : b ≠ b') (v0 v1 v2 : Value) : Acc (((w.setCell ⟨b, 0, none⟩ v0).setCell ⟨b, 1, none⟩ v1).setCell ⟨b, 2, none⟩ v2) b' s := by
  obtain ⟨⟨t', h1, h2⟩, h3⟩ := h
  exact ⟨⟨t', ybox_other h1 hne _ _ _, xr_keep3 h2 hB (y3_nw t) _ _ _⟩, fun j => by rw [frz3]; exact h3 j⟩
theorem fre_set3 {w : World} {b b' : Nat} (h : Fre w b') (v0 v1 v2 : Value) : Fre (((w.setCell ⟨b, 0, none⟩ v0).setCell ⟨b, 1, none⟩ v1).setCell ⟨b, 2, none⟩ v2) b' := fun j => by rw [frz3]; exact h j
set_option maxRecDepth 100000 in
set_option maxHeartbeats 8000000 in
theorem together_at (l : List RT) (hok : ∀ r ∈ l, rtOk r) (a : Option Addr) (c : Nat) (w : World) (hs : Sl w (.slice a l.length c) l.length (l.flatMap rtL)) : Calls Tryz.prog 16 #[.slice a l.length c] w (AnsPost w (togN l) (togD l) (allF l)) := by
  have HS := Lib.hid hs
  clear hs
  go_enter Tryz.func16, Tryz.ntmps16
  go_upto_region 1 with (fail)
  refine wp_box1r fun w1' hsz hbW hC hF => ?_
  clear hsz
  have HB_o := Lib.hid hC
  have HF_o := Lib.hid hF
  have HW := Lib.hid hbW
  clear hbW hC hF
  go_wp2_with fail
  refine (readAll_at l hok a c w1' (HS.out.ext HW.out)).mono ?_
  rintro e w2' ⟨a3, c3, xs, rfl, hx9, _, hbz⟩
  have HX9 := Lib.hid hx9
  clear hx9
  replace HF_o := Lib.hid (HF_o.out.ext HB_o.out hbz)
  replace HB_o := Lib.hid (HB_o.out.ext hbz)
  replace HW := Lib.hid (ext_trans HW.out hbz)
  clear hbz
  by_cases hf : allF l = 0
  · have hne : (allF l != 0) = false := by simp [hf]
    obtain ⟨⟨hl1, hl10⟩, haF⟩ := allF_ok hf
    have HXS := Lib.hid (HX9.out hf)
    have HPA : Hid (∀ r ∈ l, Ln 100 100 (rQ r.n r.d)) := Lib.hid fun r hr => (part_ln haF hr).2.2.1
    have HAF := Lib.hid hf
    clear hf HX9 haF
    go_wp2_with fail
    refine (whole_at 1 (by decide) (by decide) w2').mono ?_
    rintro e w3' ⟨v1, rfl, hv1, hbz⟩
    obtain ⟨p1, g1, p2, g2, rfl, _, _⟩ := hv1.open_
    obtain ⟨one, hone⟩ : ∃ q : Rat, ((1 : Int) : Rat) = q := ⟨_, rfl⟩
    rw [hone] at hv1 ⊢
    obtain ⟨bO, hbO⟩ : ∃ b, decide (one.num < 0) = b := ⟨_, rfl⟩
    generalize (digs one.num.natAbs).length = m1 at *
    generalize (digs one.den).length = m2 at *
    rw [hbO] at hv1 ⊢
    have HV1 := Lib.hid hv1
    have HONE : Hid (PrOk 0 one ∧ mulL one (l.drop 0) = mulL 1 l) := Lib.hid (by rw [← hone]; exact ⟨PrOk.one, rfl⟩)
    clear hv1 hone hbO
    replace HF_o := Lib.hid (HF_o.out.ext HB_o.out hbz)
    replace HB_o := Lib.hid (HB_o.out.ext hbz)
    replace HXS := Lib.hid (HXS.out.ext hbz)
    replace HW := Lib.hid (ext_trans HW.out hbz)
    clear hbz
    have HXSL : Hid (∀ w', Below w3'.heap.size w3' w' → XsOf w' l xs a3 c3) := Lib.hid fun w' hb => HXS.out.ext hb
    have HSI : Hid (Since w3'.heap.size w3' w3') := Lib.hid ⟨Below.refl _ _, Nat.le_refl _⟩
    have HXL : Hid (xs.length = l.length) := Lib.hid HXS.out.len
    clear HXS
    go_upto_region 5 with (fail)
    refine wp_box1r fun w4' hsz hbz hC hF => ?_
    clear hsz
    have lt_o_p : w.heap.size < w3'.heap.size := HB_o.out.1
    have le_p : w.heap.size ≤ w3'.heap.size := HW.out.size
    replace HF_o := Lib.hid (HF_o.out.ext HB_o.out hbz)
    replace HB_o := Lib.hid (HB_o.out.ext hbz)
    replace HV1 := Lib.hid (HV1.out.ext hbz)
    replace HSI := Lib.hid (HSI.out.ext hbz)
    replace HW := Lib.hid (ext_trans HW.out hbz)
    clear hbz
    have HB_p := Lib.hid hC
    have HF_p := Lib.hid hF
    clear hC hF
    generalize w3'.heap.size = b_p at *
    have HACC : Hid (Acc w4' b_p one) := Lib.hid ⟨⟨⟨bO, p1, m1, g1, p2, m2, g2⟩, HB_p.out, HV1.out⟩, HF_p.out⟩
    clear HB_p HF_p HV1
    go_wp2
    go_loopw [21] (fun i wr => ∃ (k : Nat) (p : Rat), k ≤ l.length ∧ i = .int .i64 (k : Int) ∧ Hid (mulL p (l.drop k) = mulL 1 l) ∧ Hid (PrOk k p) ∧ (Box wr w.heap.size #[.string ⟨#[]⟩, .string ⟨#[]⟩]) ∧ (Fre wr w.heap.size) ∧ (Since b_p w3' wr) ∧ (Acc wr b_p p) ∧ (Below w.heap.size w wr)) (fun i _ => l.length - (intOf i).toNat)
    case atStart => exact ⟨0, one, by omega, by rfl, HONE.out.2, HONE.out.1, HB_o.out, HF_o.out, HSI.out, HACC.out, HW.out⟩
    case round =>
      obtain ⟨k, p, hk, rfl, HK, HPK, q_HB_o, q_HF_o, q_HSI, q_HACC, q_HW⟩ := hrel
      clear HB_o HF_o HSI HACC HW
      clear HONE
      have HB_o := Lib.hid q_HB_o
      have HF_o := Lib.hid q_HF_o
      have HSI := Lib.hid q_HSI
      have HACC := Lib.hid q_HACC
      have HW := Lib.hid q_HW
      clear q_HB_o q_HF_o q_HSI q_HACC q_HW
      generalize hX : wr = X at *
      clear hX
      by_cases hlt : k < l.length
      · have hlx : k < xs.length := by rw [HXL.out]; exact hlt
        have hgx := List.getElem?_eq_getElem hlx
        have hgr := List.getElem?_eq_getElem hlt
        have HPQ := Lib.hid (HPA.out _ (List.getElem_mem hlt))
        generalize xs[k] = x at hgx
        generalize l[k] = r at hgr HPQ
        have HST := Lib.hid ((mulL_step hgr p).symm.trans HK.out)
        have HXS := Lib.hid (HXSL.out _ HSI.out.1)
        have HXR := Lib.hid (HXS.out.ok k x r hgx hgr)
        generalize rQ r.n r.d = q at *
        obtain ⟨pb, po, hp9, hcs⟩ := HXS.out.sl.elem (f := y3L) (fun _ => rfl) (by omega : 0 < 3) hgx
        obtain ⟨xb, xa1, xn1, xc1, xa2, xn2, xc2⟩ := x
        have e0 : X.cell? ⟨pb, po + k * 3, none⟩ = some (.bool xb) := hcs 0 _ rfl
        have e1 : X.cell? ⟨pb, po + k * 3 + 1, none⟩ = some (.slice xa1 xn1 xc1) := hcs 1 _ rfl
        have e2 : X.cell? ⟨pb, po + k * 3 + 2, none⟩ = some (.slice xa2 xn2 xc2) := hcs 2 _ rfl
        have hk0 : (0 : Int) ≤ (k : Int) := Int.natCast_nonneg _
        have hk1 : (k : Int) < (xs.length : Int) := by omega
        clear hcs hgx hgr HK HXS
        subst hp9
        go_upto_region 8 with (fail)
        refine wp_box1 fun w5' hsz hbz hC => ?_
        clear hsz
        have lt_o_x : w.heap.size < X.heap.size := HB_o.out.1
        have le_x : w.heap.size ≤ X.heap.size := HW.out.size
        replace HF_o := Lib.hid (HF_o.out.ext HB_o.out hbz)
        replace HB_o := Lib.hid (HB_o.out.ext hbz)
        replace HSI := Lib.hid (HSI.out.ext hbz)
        replace HACC := Lib.hid (HACC.out.ext hbz)
        replace HXR := Lib.hid (HXR.out.ext hbz)
        replace HW := Lib.hid (ext_trans HW.out hbz)
        clear hbz e0 e1 e2
        have HB_x := Lib.hid hC
        clear hC
        generalize X.heap.size = b_x at *
        have hsp := HPK.out.small (by omega)
        have hsq := HPQ.out.small (by omega) (by omega)
        obtain ⟨m, hm⟩ : ∃ m, p * q = m := ⟨_, rfl⟩
        have HPM : Hid (PrOk (k + 1) m) := Lib.hid (by rw [← hm]; exact HPK.out.mul HPQ.out)
        rw [hm] at HST
        obtain ⟨⟨⟨tb, ta1, tn1, tc1, ta2, tn2, tc2⟩, htB, htX⟩, htF⟩ := id HACC.out
        have c_t_0 : w5'.cell? ⟨b_p, 0, none⟩ = some (.bool tb) := htB.2 0
        have c_t_1 : w5'.cell? ⟨b_p, 1, none⟩ = some (.slice ta1 tn1 tc1) := htB.2 1
        have c_t_2 : w5'.cell? ⟨b_p, 2, none⟩ = some (.slice ta2 tn2 tc2) := htB.2 2
        have HXt := Lib.hid htX
        have HQt := Lib.hid (And.intro htB htF)
        clear htB htX htF
        have c_x_0 : w5'.cell? ⟨b_x, 0, none⟩ = some (.bool xb) := HB_x.out.2 0
        have c_x_1 : w5'.cell? ⟨b_x, 1, none⟩ = some (.slice xa1 xn1 xc1) := HB_x.out.2 1
        have c_x_2 : w5'.cell? ⟨b_x, 2, none⟩ = some (.slice xa2 xn2 xc2) := HB_x.out.2 2
        go_wp2_with fail
        refine (xtimes_is p q m hm _ _ w5' HXt.out HXR.out (by omega) (by omega) (by omega) (by omega)).mono ?_
        rintro e w6' ⟨v6, rfl, hv6, hbz⟩
        obtain ⟨q1, h1, q2, h2, rfl, _, _⟩ := hv6.open_
        obtain ⟨bM, hbM⟩ : ∃ b, decide (m.num < 0) = b := ⟨_, rfl⟩
        generalize (digs m.num.natAbs).length = l1 at *
        generalize (digs m.den).length = l2 at *
        rw [hbM] at hv6 ⊢
        have HV6 : Hid (XR w6' (y3V ⟨bM, q1, l1, h1, q2, l2, h2⟩) m) := Lib.hid hv6
        clear hv6 hbM hm HXt HQt
        replace HF_o := Lib.hid (HF_o.out.ext HB_o.out hbz)
        replace HB_o := Lib.hid (HB_o.out.ext hbz)
        replace HB_x := Lib.hid (HB_x.out.ext hbz)
        replace HSI := Lib.hid (HSI.out.ext hbz)
        replace HACC := Lib.hid (HACC.out.ext hbz)
        replace HXR := Lib.hid (HXR.out.ext hbz)
        replace HW := Lib.hid (ext_trans HW.out hbz)
        clear c_t_0 c_t_1 c_t_2 c_x_0 c_x_1 c_x_2
        clear hbz
        obtain ⟨⟨⟨tb, ta1, tn1, tc1, ta2, tn2, tc2⟩, htB, htX⟩, htF⟩ := id HACC.out
        have c_t_0 : w6'.cell? ⟨b_p, 0, none⟩ = some (.bool tb) := htB.2 0
        have c_t_1 : w6'.cell? ⟨b_p, 1, none⟩ = some (.slice ta1 tn1 tc1) := htB.2 1
        have c_t_2 : w6'.cell? ⟨b_p, 2, none⟩ = some (.slice ta2 tn2 tc2) := htB.2 2
        have HXt := Lib.hid htX
        have HQt := Lib.hid (And.intro htB htF)
        clear htB htX htF
        have f_t_0 := HQt.out.2 0
        have f_t_1 := HQt.out.2 1
        have f_t_2 := HQt.out.2 2
        go_upto_region 9 with (fail)
        obtain ⟨w7', hX⟩ : ∃ X, X = (((w6'.setCell ⟨b_p, 0, none⟩ (.bool bM)).setCell ⟨b_p, 1, none⟩ (.slice q1 l1 h1)).setCell ⟨b_p, 2, none⟩ (.slice q2 l2 h2)) := ⟨_, rfl⟩
        rw [← hX]
        have nB_o : Hid (Box w7' w.heap.size #[.string ⟨#[]⟩, .string ⟨#[]⟩]) := by rw [hX]; exact Lib.hid (ybox_other HB_o.out (Nat.ne_of_gt lt_o_p) _ _ _)
        have nF_o : Hid (Fre w7' w.heap.size) := by rw [hX]; exact Lib.hid (fre_set3 HF_o.out _ _ _)
        have n_HACC : Hid (Acc w7' b_p m) := by rw [hX]; exact Lib.hid (acc_set ⟨bM, q1, l1, h1, q2, l2, h2⟩ HQt.out.1 HQt.out.2 HV6.out)
        have n_HSI : Hid (Since b_p w3' w7') := by rw [hX]; exact Lib.hid (HSI.out.set3 (Nat.le_refl _) _ _ _)
        have n_HW : Hid (Below w.heap.size w w7') := by rw [hX]; exact Lib.hid (below_set3 HW.out le_p _ _ _)
        clear c_t_0 c_t_1 c_t_2 f_t_0 f_t_1 f_t_2
        clear hX HB_o HF_o HACC HSI HW
        have HB_o := nB_o; clear nB_o; have HF_o := nF_o; clear nF_o
        have HACC := n_HACC; clear n_HACC
        have HSI := n_HSI; clear n_HSI
        have HW := n_HW; clear n_HW
        go_wp2
        go_roundw
        case rel => exact ⟨k + 1, m, by omega, by go_num, HST, HPM, HB_o.out, HF_o.out, HSI.out, HACC.out, HW.out⟩
        case measure => simp [intOf]; omega
      · have hnx : ¬ k < xs.length := by rw [HXL.out]; exact hlt
        have HE : Hid (mulL 1 l = p) := Lib.hid (by rw [← HK.out, List.drop_of_length_le (by omega)]; rfl)
        have HFT := Lib.hid (HPK.out.fits (by omega))
        have hsp := HPK.out.small (by omega)
        obtain ⟨⟨⟨tb, ta1, tn1, tc1, ta2, tn2, tc2⟩, htB, htX⟩, htF⟩ := id HACC.out
        have c_t_0 : X.cell? ⟨b_p, 0, none⟩ = some (.bool tb) := htB.2 0
        have c_t_1 : X.cell? ⟨b_p, 1, none⟩ = some (.slice ta1 tn1 tc1) := htB.2 1
        have c_t_2 : X.cell? ⟨b_p, 2, none⟩ = some (.slice ta2 tn2 tc2) := htB.2 2
        have HXt := Lib.hid htX
        have HQt := Lib.hid (And.intro htB htF)
        clear htB htX htF
        go_wp2_with fail
        refine (ratio_at p _ X HXt.out (by omega) (by omega)).mono ?_
        rintro e w5' ⟨rfl, hbz⟩
        rw [(out_fits HFT.out).1, (out_fits HFT.out).2.1, (out_fits HFT.out).2.2]
        clear HXt HQt
        replace HF_o := Lib.hid (HF_o.out.ext HB_o.out hbz)
        replace HB_o := Lib.hid (HB_o.out.ext hbz)
        replace HSI := Lib.hid (HSI.out.ext hbz)
        replace HACC := Lib.hid (HACC.out.ext hbz)
        replace HW := Lib.hid (ext_trans HW.out hbz)
        clear c_t_0 c_t_1 c_t_2
        clear hbz
        have c_o_0 : w5'.cell? ⟨w.heap.size, 0, none⟩ = some (.string ⟨#[]⟩) := HB_o.out.2 0
        have c_o_1 : w5'.cell? ⟨w.heap.size, 1, none⟩ = some (.string ⟨#[]⟩) := HB_o.out.2 1
        have f_o_0 := HF_o.out 0
        have f_o_1 := HF_o.out 1
        have HV : Hid (togN l = showN p ∧ togD l = showD p) := Lib.hid ⟨by unfold togN; rw [if_pos HAF.out, HE.out], by unfold togD; rw [if_pos HAF.out, HE.out]⟩
        have HR := Lib.hid (Nt.res2s (.string (showN p)) (.string (showD p)) HB_o.out HW.out (show w.heap.size ≤ w.heap.size by omega))
        obtain ⟨hbF, z0, z1⟩ := id HR.out
        clear hbF
        go_wp2
        exact bodyPost_ret (v := .tuple #[.agg #[.string (showN p), .string (showD p)], .int .i64 0]) (by simp [results, Tryz.results16, go_sem, z0, z1]) rfl ⟨by rw [HV.out.1, HV.out.2, HAF.out], HR.out.1⟩
  · have HV : Hid (togN l = ⟨#[]⟩ ∧ togD l = ⟨#[]⟩) := Lib.hid ⟨by unfold togN; rw [if_neg hf], by unfold togD; rw [if_neg hf]⟩
    have hne : (allF l != 0) = true := by simp [hf]
    clear hf
    have c_o_0 : w2'.cell? ⟨w.heap.size, 0, none⟩ = some (.string ⟨#[]⟩) := HB_o.out.2 0
    have c_o_1 : w2'.cell? ⟨w.heap.size, 1, none⟩ = some (.string ⟨#[]⟩) := HB_o.out.2 1
    have f_o_0 := HF_o.out 0
    have f_o_1 := HF_o.out 1
    have HR := Lib.hid (Nt.res2s (.string ⟨#[]⟩) (.string ⟨#[]⟩) HB_o.out HW.out (show w.heap.size ≤ w.heap.size by omega))
    obtain ⟨hbF, z0, z1⟩ := id HR.out
    clear hbF
    go_wp2
    exact bodyPost_ret (v := .tuple #[.agg #[.string ⟨#[]⟩, .string ⟨#[]⟩], .int .i64 (allF l)]) (by simp [results, Tryz.results16, go_sem, z0, z1]) rfl ⟨by rw [HV.out.1, HV.out.2], HR.out.1⟩
end Nm
namespace Nt
open _root_.Go.Proofs.YtemenlcigengeaaGreatDoor.Nm (rF rQ showN showD Fits RT rtL rtOk AnsPost aF allF allF_ok mulL mulL_step PrOk PrOk.one PrOk.mul PrOk.fits togN togD part_ln Ln)
set_option maxRecDepth 100000 in
set_option maxHeartbeats 8000000 in
theorem refTogether_at (l : List RT) (hok : ∀ r ∈ l, rtOk r) (a : Option Addr) (c : Nat) (w : World) (hs : Sl w (.slice a l.length c) l.length (l.flatMap rtL)) (ht : Tab w) : Calls Tryz.prog 17 #[.slice a l.length c] w (AnsPost w (togN l) (togD l) (allF l)) := by
  have HS := Lib.hid hs
  clear hs
  go_enter Tryz.func17, Tryz.ntmps17
  have HT0 := Lib.hid ht
  clear ht
  go_upto_region 1 with (fail)
  refine wp_box1r fun w1' hsz hbW hC hF => ?_
  clear hsz
  have HB_o := Lib.hid hC
  have HF_o := Lib.hid hF
  have HW := Lib.hid hbW
  clear hbW hC hF
  go_wp2_with fail
  refine (checkAll_at l hok a c w1' (HS.out.ext HW.out) (HT0.out.ext HW.out)).mono ?_
  rintro e w2' ⟨rfl, hbz⟩
  replace HF_o := Lib.hid (HF_o.out.ext HB_o.out hbz)
  replace HB_o := Lib.hid (HB_o.out.ext hbz)
  replace HW := Lib.hid (ext_trans HW.out hbz)
  clear hbz
  by_cases hf : allF l = 0
  · have hne : (allF l != 0) = false := by simp [hf]
    obtain ⟨⟨hl1, hl10⟩, haF⟩ := allF_ok hf
    have HPA : Hid (∀ r ∈ l, rF r.n r.d = 0 ∧ 0 ≤ rQ r.n r.d ∧ Ln 100 100 (rQ r.n r.d) ∧ Fits (rQ r.n r.d) ∧ r.n = showN (rQ r.n r.d) ∧ r.d = showD (rQ r.n r.d)) := Lib.hid fun r hr => part_ln haF hr
    have HAF := Lib.hid hf
    clear hf haF
    go_wp2_with fail
    refine (whole1 w2' (HT0.out.ext HW.out)).mono ?_
    rintro e w3' ⟨rfl, hbz⟩
    replace HF_o := Lib.hid (HF_o.out.ext HB_o.out hbz)
    replace HB_o := Lib.hid (HB_o.out.ext hbz)
    replace HW := Lib.hid (ext_trans HW.out hbz)
    clear hbz
    obtain ⟨one, hone⟩ : ∃ q : Rat, q = 1 := ⟨_, rfl⟩
    rw [← hone]
    have HONE : Hid (PrOk 0 one ∧ mulL one (l.drop 0) = mulL 1 l) := Lib.hid (by rw [hone]; exact ⟨PrOk.one, rfl⟩)
    clear hone
    go_upto_region 5 with (fail)
    refine wp_box1r fun w4' hsz hbz hC hF => ?_
    clear hsz
    have lt_o_p : w.heap.size < w3'.heap.size := HB_o.out.1
    have le_p : w.heap.size ≤ w3'.heap.size := HW.out.size
    replace HF_o := Lib.hid (HF_o.out.ext HB_o.out hbz)
    replace HB_o := Lib.hid (HB_o.out.ext hbz)
    replace HW := Lib.hid (ext_trans HW.out hbz)
    clear hbz
    have HB_p := Lib.hid hC
    have HF_p := Lib.hid hF
    clear hC hF
    generalize w3'.heap.size = b_p at *
    go_wp2
    go_loopw [17] (fun i wr => ∃ (k : Nat) (p : Rat), k ≤ l.length ∧ i = .int .i64 (k : Int) ∧ Hid (mulL p (l.drop k) = mulL 1 l) ∧ Hid (PrOk k p) ∧ (Box wr w.heap.size #[.string ⟨#[]⟩, .string ⟨#[]⟩]) ∧ (Fre wr w.heap.size) ∧ (Box wr b_p #[.string (showN (p)), .string (showD (p))]) ∧ (Fre wr b_p) ∧ (Below w.heap.size w wr)) (fun i _ => l.length - (intOf i).toNat)
    case atStart => exact ⟨0, one, by omega, by rfl, HONE.out.2, HONE.out.1, HB_o.out, HF_o.out, HB_p.out, HF_p.out, HW.out⟩
    case round =>
      obtain ⟨k, p, hk, rfl, HK, HPK, q_HB_o, q_HF_o, q_HB_p, q_HF_p, q_HW⟩ := hrel
      clear HB_o HF_o HB_p HF_p HW
      clear HONE
      have HB_o := Lib.hid q_HB_o
      have HF_o := Lib.hid q_HF_o
      have HB_p := Lib.hid q_HB_p
      have HF_p := Lib.hid q_HF_p
      have HW := Lib.hid q_HW
      clear q_HB_o q_HF_o q_HB_p q_HF_p q_HW
      generalize hX : wr = X at *
      clear hX
      by_cases hlt : k < l.length
      · have hgk := List.getElem?_eq_getElem hlt
        obtain ⟨_, _, hln, hft, hrn, hrd⟩ := HPA.out _ (List.getElem_mem hlt)
        generalize l[k] = r at hgk hln hft hrn hrd
        have HST := Lib.hid ((mulL_step hgk p).symm.trans HK.out)
        obtain ⟨pb, po, hp9, hcs⟩ := (HS.out.ext HW.out).elem (f := rtL) (fun _ => rfl) (by omega : 0 < 2) hgk
        have e0 := hcs 0 _ rfl
        have e1 := hcs 1 _ rfl
        rw [Nat.add_zero] at e0
        rw [hrn] at e0
        rw [hrd] at e1
        generalize rQ r.n r.d = q at *
        have HPQ := Lib.hid hln
        have HFQ := Lib.hid hft
        have hk0 : (0 : Int) ≤ (k : Int) := Int.natCast_nonneg _
        have hk1 : (k : Int) < (l.length : Int) := by omega
        clear hcs hgk HK hln hft hrn hrd
        subst hp9
        go_upto_region 8 with (fail)
        refine wp_box1 fun w5' hsz hbz hC => ?_
        clear hsz
        have lt_o_x : w.heap.size < X.heap.size := HB_o.out.1
        have lt_p_x : b_p < X.heap.size := HB_p.out.1
        have le_x : w.heap.size ≤ X.heap.size := HW.out.size
        replace HF_o := Lib.hid (HF_o.out.ext HB_o.out hbz)
        replace HB_o := Lib.hid (HB_o.out.ext hbz)
        replace HF_p := Lib.hid (HF_p.out.ext HB_p.out hbz)
        replace HB_p := Lib.hid (HB_p.out.ext hbz)
        replace HW := Lib.hid (ext_trans HW.out hbz)
        clear hbz e0 e1
        have HB_x := Lib.hid hC
        clear hC
        generalize X.heap.size = b_x at *
        obtain ⟨m, hm⟩ : ∃ m, p * q = m := ⟨_, rfl⟩
        have HPM : Hid (PrOk (k + 1) m) := Lib.hid (by rw [← hm]; exact HPK.out.mul HPQ.out)
        rw [hm] at HST
        have c_p_0 : w5'.cell? ⟨b_p, 0, none⟩ = some (.string (showN (p))) := HB_p.out.2 0
        have c_p_1 : w5'.cell? ⟨b_p, 1, none⟩ = some (.string (showD (p))) := HB_p.out.2 1
        have c_x_0 : w5'.cell? ⟨b_x, 0, none⟩ = some (.string (showN (q))) := HB_x.out.2 0
        have c_x_1 : w5'.cell? ⟨b_x, 1, none⟩ = some (.string (showD (q))) := HB_x.out.2 1
        go_wp2_with fail
        refine (times_is p q m hm (HPK.out.fits (by omega)) HFQ.out (HPM.out.fits (by omega)) w5' (HT0.out.ext HW.out)).mono ?_
        rintro e w6' ⟨rfl, hbz⟩
        replace HF_o := Lib.hid (HF_o.out.ext HB_o.out hbz)
        replace HB_o := Lib.hid (HB_o.out.ext hbz)
        replace HF_p := Lib.hid (HF_p.out.ext HB_p.out hbz)
        replace HB_p := Lib.hid (HB_p.out.ext hbz)
        replace HB_x := Lib.hid (HB_x.out.ext hbz)
        replace HW := Lib.hid (ext_trans HW.out hbz)
        clear c_p_0 c_p_1 c_x_0 c_x_1
        clear hbz
        have c_p_0 : w6'.cell? ⟨b_p, 0, none⟩ = some (.string (showN (p))) := HB_p.out.2 0
        have c_p_1 : w6'.cell? ⟨b_p, 1, none⟩ = some (.string (showD (p))) := HB_p.out.2 1
        have f_p_0 := HF_p.out 0
        have f_p_1 := HF_p.out 1
        go_upto_region 9 with (fail)
        clear HB_x
        obtain ⟨w7', hX⟩ : ∃ X, X = ((w6'.setCell ⟨b_p, 0, none⟩ (.string (showN (m)))).setCell ⟨b_p, 1, none⟩ (.string (showD (m)))) := ⟨_, rfl⟩
        rw [← hX]
        have nB_o : Hid (Box w7' w.heap.size #[.string ⟨#[]⟩, .string ⟨#[]⟩]) := by rw [hX]; exact Lib.hid (boxn_other (boxn_other (HB_o.out) (Nat.ne_of_lt lt_o_p) 0 (.string (showN (m)))) (Nat.ne_of_lt lt_o_p) 1 (.string (showD (m))))
        have nF_o : Hid (Fre w7' w.heap.size) := by rw [hX]; exact Lib.hid (fun j => by simp only [World.frozen?_setCell]; exact HF_o.out j)
        have nB_p : Hid (Box w7' b_p #[.string (showN (m)), .string (showD (m))]) := by rw [hX]; exact Lib.hid (boxn_cell (boxn_cell (HB_p.out) (j := 0) (by simp) (.string (showN (m)))) (j := 1) (by simp) (.string (showD (m))))
        have nF_p : Hid (Fre w7' b_p) := by rw [hX]; exact Lib.hid (fun j => by simp only [World.frozen?_setCell]; exact HF_p.out j)
        have nW : Hid (Below w.heap.size w w7') := by rw [hX]; exact Lib.hid (((HW.out).setCell (p := ⟨b_p, 0, none⟩) le_p (.string (showN (m)))).setCell (p := ⟨b_p, 1, none⟩) le_p (.string (showD (m))))
        clear c_p_0 c_p_1 f_p_0 f_p_1
        clear hX HB_o HF_o HB_p HF_p HW
        have HB_o := nB_o; have HF_o := nF_o
        have HB_p := nB_p; have HF_p := nF_p
        have HW := nW
        clear nW nB_o nF_o nB_p nF_p
        go_wp2
        go_roundw
        case rel => exact ⟨k + 1, m, by omega, by go_num, HST, HPM, HB_o.out, HF_o.out, HB_p.out, HF_p.out, HW.out⟩
        case measure => simp [intOf]; omega
      · have HE : Hid (mulL 1 l = p) := Lib.hid (by rw [← HK.out, List.drop_of_length_le (by omega)]; rfl)
        have c_p_0 : X.cell? ⟨b_p, 0, none⟩ = some (.string (showN (p))) := HB_p.out.2 0
        have c_p_1 : X.cell? ⟨b_p, 1, none⟩ = some (.string (showD (p))) := HB_p.out.2 1
        have c_o_0 : X.cell? ⟨w.heap.size, 0, none⟩ = some (.string ⟨#[]⟩) := HB_o.out.2 0
        have c_o_1 : X.cell? ⟨w.heap.size, 1, none⟩ = some (.string ⟨#[]⟩) := HB_o.out.2 1
        have f_o_0 := HF_o.out 0
        have f_o_1 := HF_o.out 1
        have HV : Hid (togN l = showN p ∧ togD l = showD p) := Lib.hid ⟨by unfold togN; rw [if_pos HAF.out, HE.out], by unfold togD; rw [if_pos HAF.out, HE.out]⟩
        have HR := Lib.hid (res2s (.string (showN p)) (.string (showD p)) HB_o.out HW.out (show w.heap.size ≤ w.heap.size by omega))
        obtain ⟨hbF, z0, z1⟩ := id HR.out
        clear hbF
        go_wp2
        exact bodyPost_ret (v := .tuple #[.agg #[.string (showN p), .string (showD p)], .int .i64 0]) (by simp [results, Tryz.results17, go_sem, z0, z1]) rfl ⟨by rw [HV.out.1, HV.out.2, HAF.out], HR.out.1⟩
  · have HV : Hid (togN l = ⟨#[]⟩ ∧ togD l = ⟨#[]⟩) := Lib.hid ⟨by unfold togN; rw [if_neg hf], by unfold togD; rw [if_neg hf]⟩
    have hne : (allF l != 0) = true := by simp [hf]
    clear hf
    have c_o_0 : w2'.cell? ⟨w.heap.size, 0, none⟩ = some (.string ⟨#[]⟩) := HB_o.out.2 0
    have c_o_1 : w2'.cell? ⟨w.heap.size, 1, none⟩ = some (.string ⟨#[]⟩) := HB_o.out.2 1
    have f_o_0 := HF_o.out 0
    have f_o_1 := HF_o.out 1
    have HR := Lib.hid (res2s (.string ⟨#[]⟩) (.string ⟨#[]⟩) HB_o.out HW.out (show w.heap.size ≤ w.heap.size by omega))
    obtain ⟨hbF, z0, z1⟩ := id HR.out
    clear hbF
    go_wp2
    exact bodyPost_ret (v := .tuple #[.agg #[.string ⟨#[]⟩, .string ⟨#[]⟩], .int .i64 (allF l)]) (by simp [results, Tryz.results17, go_sem, z0, z1]) rfl ⟨by rw [HV.out.1, HV.out.2], HR.out.1⟩
end Nt
end Go.Proofs.YtemenlcigengeaaGreatDoor
