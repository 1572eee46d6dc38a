/- read of package metric. Printed by gen_mom.py. Plain: the slope over arms leaves least, and adjusting does not change the sum over all arms. No program stands in it. Plain: lists of moments, their faults, their sums. No program stands in it. Printed by gen_arm.py. -/
import Derived.Test.YtlbnjgnbpiidaaaGreatDoorB831
import Derived.Test.YtlbnjgnbpiidaaaGreatDoorB828
namespace Go.Proofs.YtlbnjgnbpiidaaaGreatDoor
open Go.RowKit
namespace Nm
open _root_.Go.Proofs.YtlbnjgnbpiidaaaGreatDoor.Nt (RH RH.cell RH.box RH.row RH.lt RH.new RH.ext RH.fre RH.set RH.other RH.row_other store_cells)
def fr (r : R5) : Nat → RT
 | 0 => r.x
 | 1 => r.y
 | 2 => r.xx
 | 3 => r.yy
 | _ => r.xy
theorem R5.ok_at {r : R5} (h : r.ok) : ∀ k, rtOk (fr r k)
 | 0 => h.1
 | 1 => h.2.1
 | 2 => h.2.2.1
 | 3 => h.2.2.2.1
 | _ + 4 => h.2.2.2.2
theorem fr_get {r : R5} {k : Nat} (h : k < 5) : r.l[k]? = some (fr r k) := by
 match k, h with
 | 0, _ => rfl
 | 1, _ => rfl
 | 2, _ => rfl
 | 3, _ => rfl
 | 4, _ => rfl
def setY (t : Y5) (k : Nat) (y : Y3) : Y5 := match k with
 | 0 => { t with x := y }
 | 1 => { t with y := y }
 | 2 => { t with xx := y }
 | 3 => { t with yy := y }
 | _ => { t with xy := y }
theorem sm_set {n : Int} {t : Y5} {k : Nat} (h : k < 5) (y : Y3) : (((smA n t).setIfInBounds (1 + 3 * k) (.bool y.b)).setIfInBounds (1 + 3 * k + 1) (.slice y.a1 y.n1 y.c1)).setIfInBounds (1 + 3 * k + 2) (.slice y.a2 y.n2 y.c2) = smA n (setY t k y) := by
 match k, h with
 | 0, _ => rfl
 | 1, _ => rfl
 | 2, _ => rfl
 | 3, _ => rfl
 | 4, _ => rfl
theorem sm_at {n : Int} {t : Y5} {k : Nat} (h : k < 5) : (smA n t)[1 + 3 * k]? = some (.bool (fy t k).b) ∧ (smA n t)[1 + 3 * k + 1]? = some (.slice (fy t k).a1 (fy t k).n1 (fy t k).c1) ∧ (smA n t)[1 + 3 * k + 2]? = some (.slice (fy t k).a2 (fy t k).n2 (fy t k).c2) := by
 match k, h with
 | 0, _ => exact ⟨rfl, rfl, rfl⟩
 | 1, _ => exact ⟨rfl, rfl, rfl⟩
 | 2, _ => exact ⟨rfl, rfl, rfl⟩
 | 3, _ => exact ⟨rfl, rfl, rfl⟩
 | 4, _ => exact ⟨rfl, rfl, rfl⟩
def eR (b : Nat) (r : R5) : Array Value := #[.string r.x.n, .string r.x.d, .pointer (some ⟨b, 1, none⟩), .string r.y.n, .string r.y.d, .pointer (some ⟨b, 4, none⟩), .string r.xx.n, .string r.xx.d, .pointer (some ⟨b, 7, none⟩), .string r.yy.n, .string r.yy.d, .pointer (some ⟨b, 10, none⟩), .string r.xy.n, .string r.xy.d, .pointer (some ⟨b, 13, none⟩)]
theorem eR_at {b : Nat} {r : R5} {k : Nat} (h : k < 5) : (eR b r)[k * 3]? = some (.string (fr r k).n) ∧ (eR b r)[k * 3 + 1]? = some (.string (fr r k).d) ∧ (eR b r)[k * 3 + 2]? = some (.pointer (some ⟨b, 1 + 3 * k, none⟩)) := by
 match k, h with
 | 0, _ => exact ⟨rfl, rfl, rfl⟩
 | 1, _ => exact ⟨rfl, rfl, rfl⟩
 | 2, _ => exact ⟨rfl, rfl, rfl⟩
 | 3, _ => exact ⟨rfl, rfl, rfl⟩
 | 4, _ => exact ⟨rfl, rfl, rfl⟩
/-- the first k numbers are read -/
def SK (w : World) (t : Y5) (r : R5) (k : Nat) : Prop := ∀ j, j < k → XR w (y3V (fy t j)) (rQ (fr r j).n (fr r j).d)
theorem SK.ext {w w' : World} {t : Y5} {r : R5} {k : Nat} (h : SK w t r k) (hb : Below w.heap.size w w') : SK w' t r k := fun j hj => (h j hj).ext hb
theorem SK.far {w w' : World} {t : Y5} {r : R5} {k : Nat} {b : Nat} {A : Array Value} (h : SK w t r k) (hA : Box w b A) (hn : NoW A) (hk : ∀ p : Addr, p.block ≠ b → w'.cell? p = w.cell? p) : SK w' t r k := fun j hj => (h j hj).far hA hn hk
theorem fy_set {t : Y5} {k j : Nat} {y : Y3} (hk : k < 5) (hj : j < 5) : fy (setY t k y) j = if j = k then y else fy t j := by
 match k, hk, j, hj with
 | 0, _, 0, _ | 0, _, 1, _ | 0, _, 2, _ | 0, _, 3, _ | 0, _, 4, _ => rfl
 | 1, _, 0, _ | 1, _, 1, _ | 1, _, 2, _ | 1, _, 3, _ | 1, _, 4, _ => rfl
 | 2, _, 0, _ | 2, _, 1, _ | 2, _, 2, _ | 2, _, 3, _ | 2, _, 4, _ => rfl
 | 3, _, 0, _ | 3, _, 1, _ | 3, _, 2, _ | 3, _, 3, _ | 3, _, 4, _ => rfl
 | 4, _, 0, _ | 4, _, 1, _ | 4, _, 2, _ | 4, _, 3, _ | 4, _, 4, _ => rfl
theorem SK.push {w : World} {t : Y5} {r : R5} {k : Nat} {y : Y3} (h : SK w t r k) (hk : k < 5) (hy : XR w (y3V y) (rQ (fr r k).n (fr r k).d)) : SK w (setY t k y) r (k + 1) := fun j hj => by
 rw [fy_set hk (by omega)]
 by_cases e : j = k
 ·subst e; rw [if_pos rfl]; exact hy
 ·rw [if_neg e]; exact h j (by omega)
theorem SK.all {w : World} {t : Y5} {r : R5} (h : SK w t r 5) : SX w t r.q := ⟨h 0 (by decide), h 1 (by decide), h 2 (by decide), h 3 (by decide), h 4 (by decide)⟩
theorem SK.none (w : World) (t : Y5) (r : R5) : SK w t r 0 := fun j hj => by omega
/-- what read gives -/
def RdIf (w : World) (f n : Int) (r : R5) (k : Int) (t : Y5) : Prop := f = 0 → k = n ∧ SX w t r.q
theorem RdIf.ext {w w' : World} {f n : Int} {r : R5} {k : Int} {t : Y5} (h : RdIf w f n r k t) (hb : Below w.heap.size w w') : RdIf w' f n r k t := fun h0 => ⟨(h h0).1, (h h0).2.ext hb⟩
theorem RdIf.far {w w' : World} {f n : Int} {r : R5} {k : Int} {t : Y5} {b : Nat} {A : Array Value} (h : RdIf w f n r k t) (hA : Box w b A) (hn : NoW A) (hk : ∀ p : Addr, p.block ≠ b → w'.cell? p = w.cell? p) : RdIf w' f n r k t := fun h0 => ⟨(h h0).1, (h h0).2.far hA hn hk⟩
def RdPost (w : World) (n : Int) (r : R5) (f : Int) (e : Ending) (w' : World) : Prop := ∃ (k : Int) (t : Y5), e = .returned (.tuple #[.agg (smA k t), .int .i64 f]) ∧ RdIf w' f n r k t ∧ Below w.heap.size w w'
set_option maxRecDepth 100000 in
set_option maxHeartbeats 16000000 in
theorem read_at (n : Int) (r : R5) (hok : r.ok) (w : World) : Calls Tryz.prog 49 #[.agg (mrA n r)] w (RdPost w n r (momF n r)) := by
 have HOK := Lib.hid hok
 clear hok
 go_enter Tryz.func49, Tryz.ntmps49
 go_upto_region 1 with (fail)
 refine wp_rows2 fun w1' hbz hR0 hR1 => ?_
 have HR_m : Hid (RH w1' w.heap.size (mrA (n) r) 35) := Lib.hid hR0
 have HR_o : Hid (RH w1' (w.heap.size + 1) (smA (0) y5z) 59) := Lib.hid hR1
 have HW := Lib.hid hbz
 clear hbz hR0 hR1
 obtain ⟨c_m_0, -, -, -, -, -, -, -, -, -, -⟩ := zs11 HR_m.out
 by_cases hn : 0 ≤ n ∧ n ≤ 20000
 ·obtain ⟨hn0, hn1⟩ := hn
  have HP0 : Hid (momF n r = if smL r.l ≠ 0 then smL r.l else if posB n r.q = true then 0 else 13) := Lib.hid (by unfold momF; rw [if_neg (by omega)])
  go_wp2_with fail
  refine (mwithin_yes n 0 20000 hn0 hn1 w1').mono ?_
  rintro e w2' ⟨rfl, hw9⟩
  have hbz : Below w1'.heap.size w1' w2' := by rw [← hw9]; exact Below.refl _ _
  clear hw9
  replace HR_m := Lib.hid (HR_m.out.ext hbz)
  replace HR_o := Lib.hid (HR_o.out.ext hbz)
  replace HW := Lib.hid (ext_trans HW.out hbz)
  clear c_m_0
  clear hbz
  have HNB := Lib.hid (And.intro hn0 hn1)
  clear hn0 hn1
  obtain ⟨c_m_0, -, -, -, -, -, -, -, -, -, -⟩ := zs11 HR_m.out
  go_upto_region 4 with (fail)
  refine wp_rows1 fun w3' hbz hR0 => ?_
  have lt_m_s : w.heap.size < w2'.heap.size := HR_m.out.lt
  have lt_o_s : (w.heap.size + 1) < w2'.heap.size := HR_o.out.lt
  have le_s : w.heap.size ≤ w2'.heap.size := HW.out.size
  replace HR_m := Lib.hid (HR_m.out.ext hbz)
  replace HR_o := Lib.hid (HR_o.out.ext hbz)
  replace HW := Lib.hid (ext_trans HW.out hbz)
  clear c_m_0
  clear hbz
  have HR_s : Hid (RH w3' w2'.heap.size (smA (n) y5z) 59) := Lib.hid hR0
  clear hR0
  generalize w2'.heap.size = b_s at *
  obtain ⟨c_m_0, c_m_1, c_m_2, c_m_3, c_m_4, c_m_5, c_m_6, c_m_7, c_m_8, c_m_9, c_m_10⟩ := zs11 HR_m.out
  go_upto_region 5 with (fail)
  refine wp_rows1 fun w4' hbz hR0 => ?_
  have lt_m_e : w.heap.size < w3'.heap.size := HR_m.out.lt
  have lt_o_e : (w.heap.size + 1) < w3'.heap.size := HR_o.out.lt
  have lt_s_e : b_s < w3'.heap.size := HR_s.out.lt
  have le_e : w.heap.size ≤ w3'.heap.size := HW.out.size
  replace HR_m := Lib.hid (HR_m.out.ext hbz)
  replace HR_o := Lib.hid (HR_o.out.ext hbz)
  replace HR_s := Lib.hid (HR_s.out.ext hbz)
  replace HW := Lib.hid (ext_trans HW.out hbz)
  clear c_m_0 c_m_1 c_m_2 c_m_3 c_m_4 c_m_5 c_m_6 c_m_7 c_m_8 c_m_9 c_m_10
  clear hbz
  have HR_e : Hid (RH w4' w3'.heap.size (eR b_s r) 111) := Lib.hid hR0
  clear hR0
  generalize w3'.heap.size = b_e at *
  have HSK : Hid (SK w4' y5z r 0) := Lib.hid (SK.none _ _ _)
  go_wp2
  go_loopw [8, 39] (fun _ i wr => ∃ (k : Nat) (t : Y5), k ≤ 5 ∧ i = .int .i64 (k : Int) ∧ Hid (smL r.l = smL (r.l.drop k)) ∧ (RH wr w.heap.size (mrA (n) r) 35) ∧ (RH wr (w.heap.size + 1) (smA (0) y5z) 59) ∧ (RH wr b_s (smA (n) t) 59) ∧ (RH wr b_e (eR b_s r) 111) ∧ (SK wr t r k) ∧ (Below w.heap.size w wr)) (fun _ i _ => 5 - (intOf i).toNat)
  case atStart => exact ⟨0, y5z, by omega, rfl, rfl, HR_m.out, HR_o.out, HR_s.out, HR_e.out, HSK.out, HW.out⟩
  case round =>
   obtain ⟨k, t, hk, rfl, HK, q_HR_m, q_HR_o, q_HR_s, q_HR_e, q_HSK, q_HW⟩ := hrel
   clear HR_m HR_o HR_s HR_e HSK HW
   have HR_m := Lib.hid q_HR_m
   have HR_o := Lib.hid q_HR_o
   have HR_s := Lib.hid q_HR_s
   have HR_e := Lib.hid q_HR_e
   have HSK := Lib.hid q_HSK
   have HW := Lib.hid q_HW
   clear q_HR_m q_HR_o q_HR_s q_HR_e q_HSK q_HW
   generalize hX : wr = X at *
   clear hX
   by_cases hlt : k < 5
   ·have hk0 : (0 : Int) ≤ (k : Int) := Int.natCast_nonneg _
    have hk1 : (k : Int) < 5 := by omega
    have hk3 : (k : Int).toNat = k := by omega
    obtain ⟨h0, h1, h2⟩ := eR_at (b := b_s) (r := r) hlt
    have HST := Lib.hid (HK.out.trans (smL_step (fr_get (r := r) hlt)))
    obtain ⟨rk, hrk⟩ : ∃ z, fr r k = z := ⟨_, rfl⟩
    have hok := R5.ok_at HOK.out k
    rw [hrk] at h0 h1 HST hok
    have HRK := Lib.hid hrk
    obtain ⟨rn, rd⟩ := rk
    simp only at h0 h1 HST
    obtain ⟨ho1, ho2⟩ := hok
    obtain ⟨ok, hok⟩ : ∃ z, 1 + 3 * k = z := ⟨_, rfl⟩
    rw [hok] at h2
    have HMS : Hid (∀ y : Y3, (((smA n t).setIfInBounds ok (.bool y.b)).setIfInBounds (ok + 1) (.slice y.a1 y.n1 y.c1)).setIfInBounds (ok + 2) (.slice y.a2 y.n2 y.c2) = smA n (setY t k y)) := Lib.hid (by rw [← hok]; exact sm_set hlt)
    have HMA : Hid ((smA n t)[ok]? = some (.bool (fy t k).b) ∧ (smA n t)[ok + 1]? = some (.slice (fy t k).a1 (fy t k).n1 (fy t k).c1) ∧ (smA n t)[ok + 2]? = some (.slice (fy t k).a2 (fy t k).n2 (fy t k).c2)) := Lib.hid (by rw [← hok]; exact sm_at hlt)
    have e0 := (HR_e.out.cell (k * 3)).trans h0
    have e1 := (HR_e.out.cell (k * 3 + 1)).trans h1
    have e2 := (HR_e.out.cell (k * 3 + 2)).trans h2
    clear h0 h1 h2 hrk hok HK
    go_upto_region 7 with (fail)
    refine wp_rows1 fun w5' hbz hR0 => ?_
    have lt_m_p : w.heap.size < X.heap.size := HR_m.out.lt
    have lt_o_p : (w.heap.size + 1) < X.heap.size := HR_o.out.lt
    have lt_s_p : b_s < X.heap.size := HR_s.out.lt
    have lt_e_p : b_e < X.heap.size := HR_e.out.lt
    have le_p : w.heap.size ≤ X.heap.size := HW.out.size
    replace HR_m := Lib.hid (HR_m.out.ext hbz)
    replace HR_o := Lib.hid (HR_o.out.ext hbz)
    replace HR_s := Lib.hid (HR_s.out.ext hbz)
    replace HR_e := Lib.hid (HR_e.out.ext hbz)
    replace HSK := Lib.hid (HSK.out.ext hbz)
    replace HW := Lib.hid (ext_trans HW.out hbz)
    clear e0 e1 e2
    clear hbz
    have HR_p : Hid (RH w5' X.heap.size #[.string rn, .string rd, .pointer (some ⟨b_s, ok, none⟩)] 111) := Lib.hid hR0
    clear hR0
    generalize X.heap.size = b_p at *
    obtain ⟨c_p_0, c_p_1, c_p_2⟩ := zs3 HR_p.out
    go_wp2_with fail
    refine (readSum_at rn rd ho1 ho2 w5').mono ?_
    rintro e w6' ⟨t1, rfl, hx1, hbz⟩
    replace HR_m := Lib.hid (HR_m.out.ext hbz)
    replace HR_o := Lib.hid (HR_o.out.ext hbz)
    replace HR_s := Lib.hid (HR_s.out.ext hbz)
    replace HR_e := Lib.hid (HR_e.out.ext hbz)
    replace HR_p := Lib.hid (HR_p.out.ext hbz)
    replace HSK := Lib.hid (HSK.out.ext hbz)
    replace HW := Lib.hid (ext_trans HW.out hbz)
    clear c_p_0 c_p_1 c_p_2
    clear hbz
    have HX1 : Hid (RsIf w6' (smF rn rd) t1 (rQ rn rd)) := Lib.hid hx1
    clear hx1
    go_upto_region 8 with (fail)
    refine wp_rows1 fun w7' hbz hR0 => ?_
    have lt_m_x : w.heap.size < w6'.heap.size := HR_m.out.lt
    have lt_o_x : (w.heap.size + 1) < w6'.heap.size := HR_o.out.lt
    have lt_s_x : b_s < w6'.heap.size := HR_s.out.lt
    have lt_e_x : b_e < w6'.heap.size := HR_e.out.lt
    have lt_p_x : b_p < w6'.heap.size := HR_p.out.lt
    have le_x : w.heap.size ≤ w6'.heap.size := HW.out.size
    replace HR_m := Lib.hid (HR_m.out.ext hbz)
    replace HR_o := Lib.hid (HR_o.out.ext hbz)
    replace HR_s := Lib.hid (HR_s.out.ext hbz)
    replace HR_e := Lib.hid (HR_e.out.ext hbz)
    replace HR_p := Lib.hid (HR_p.out.ext hbz)
    replace HSK := Lib.hid (HSK.out.ext hbz)
    replace HX1 := Lib.hid (HX1.out.ext hbz)
    replace HW := Lib.hid (ext_trans HW.out hbz)
    clear hbz
    have HR_x : Hid (RH w7' w6'.heap.size #[.bool t1.b, .slice t1.a1 t1.n1 t1.c1, .slice t1.a2 t1.n2 t1.c2] 52) := Lib.hid hR0
    clear hR0
    generalize w6'.heap.size = b_x at *
    by_cases hg : smF rn rd = 0
    ·have hne2 : (smF rn rd != 0) = false := by simp [hg]
     have HN : Hid (smL r.l = smL (r.l.drop (k + 1))) := Lib.hid (HST.out.trans (if_neg (fun h => h hg)))
     have HXV : Hid (XR w7' (y3V t1) (rQ rn rd)) := Lib.hid (HX1.out hg)
     clear HX1
     clear hg HST
     obtain ⟨-, -, c_p_2⟩ := zs3 HR_p.out
     obtain ⟨c_x_0, c_x_1, c_x_2⟩ := zs3 HR_x.out
     have r0 := (HR_s.out.cell ok).trans HMA.out.1
     have r1 := (HR_s.out.cell (ok + 1)).trans HMA.out.2.1
     have r2 := (HR_s.out.cell (ok + 2)).trans HMA.out.2.2
     have f0 := HR_s.out.fre ok
     have f1 := HR_s.out.fre (ok + 1)
     have f2 := HR_s.out.fre (ok + 2)
     go_upto_region 11 with (fail)
     obtain ⟨w8', hX⟩ : ∃ Z9, Z9 = (((w7'.setCell ⟨b_s, ok, none⟩ (.bool t1.b)).setCell ⟨b_s, (ok + 1), none⟩ (.slice t1.a1 t1.n1 t1.c1)).setCell ⟨b_s, (ok + 2), none⟩ (.slice t1.a2 t1.n2 t1.c2)) := ⟨_, rfl⟩
     rw [← hX]
     have n_s : Hid (RH w8' b_s (smA (n) (setY t k t1)) 59) := by rw [hX, ← HMS.out t1]; exact Lib.hid ((((HR_s.out).set ok (.bool t1.b)).set (ok + 1) (.slice t1.a1 t1.n1 t1.c1)).set (ok + 2) (.slice t1.a2 t1.n2 t1.c2))
     have n_m : Hid (RH w8' w.heap.size (mrA (n) r) 35) := by rw [hX]; exact Lib.hid (zzo (zzo (zzo (HR_m.out) (by omega)) (by omega)) (by omega))
     have n_o : Hid (RH w8' (w.heap.size + 1) (smA (0) y5z) 59) := by rw [hX]; exact Lib.hid (zzo (zzo (zzo (HR_o.out) (by omega)) (by omega)) (by omega))
     have n_e : Hid (RH w8' b_e (eR b_s r) 111) := by rw [hX]; exact Lib.hid (zzo (zzo (zzo (HR_e.out) (by omega)) (by omega)) (by omega))
     have n_p : Hid (RH w8' b_p #[.string rn, .string rd, .pointer (some ⟨b_s, ok, none⟩)] 111) := by rw [hX]; exact Lib.hid (zzo (zzo (zzo (HR_p.out) (by omega)) (by omega)) (by omega))
     have n_x : Hid (RH w8' b_x #[.bool t1.b, .slice t1.a1 t1.n1 t1.c1, .slice t1.a2 t1.n2 t1.c2] 52) := by rw [hX]; exact Lib.hid (zzo (zzo (zzo (HR_x.out) (by omega)) (by omega)) (by omega))
     have HK_ : ∀ p : Addr, p.block ≠ b_s → w8'.cell? p = w7'.cell? p := fun p hp => by rw [hX]; exact (cs_other hp).trans ((cs_other hp).trans (cs_other hp))
     have n_HSK : Hid (SK w8' t r k) := Lib.hid (HSK.out.far HR_s.out.box (sm_nw _ _) HK_)
     have n_HXV : Hid (XR w8' (y3V t1) (rQ rn rd)) := Lib.hid (HXV.out.far HR_s.out.box (sm_nw _ _) HK_)
     have nW : Hid (Below w.heap.size w w8') := by rw [hX]; exact Lib.hid (zzw (zzw (zzw (HW.out) (by omega)) (by omega)) (by omega))
     clear c_p_2 c_x_0 c_x_1 c_x_2 r0 r1 r2 f0 f1 f2
     clear hX HK_ HW HR_m HR_o HR_s HR_e HR_p HR_x HSK HXV
     have HR_m := n_m; clear n_m
     have HR_o := n_o; clear n_o
     have HR_s := n_s; clear n_s
     have HR_e := n_e; clear n_e
     have HR_p := n_p; clear n_p
     have HR_x := n_x; clear n_x
     have HSK := n_HSK; clear n_HSK
     have HXV := n_HXV; clear n_HXV
     have HW := nW; clear nW
     have HSN : Hid (SK w8' (setY t k t1) r (k + 1)) := Lib.hid (HSK.out.push hlt (by rw [HRK.out]; exact HXV.out))
     go_wp2
     go_roundw
     case rel => exact ⟨k + 1, setY t k t1, by omega, by go_num, HN, HR_m.out, HR_o.out, HR_s.out, HR_e.out, HSN.out, HW.out⟩
     case measure => simp [intOf]; omega
    ·have hne2 : (smF rn rd != 0) = true := by simp [hg]
     have HP : Hid (momF n r = smF rn rd) := Lib.hid (by
      have e : smL r.l = smF rn rd := HST.out.trans (if_pos hg)
      rw [HP0.out, e, if_pos hg])
     have HNE := Lib.hid hg
     clear hg HST
     go_wp2_with (first | (refine wpList_store_row rfl _ _ _ rfl (w.heap.size + 1) (smA (0) y5z) rfl rfl _ _ HR_o.out (sm_info _ _) rfl (sm_all _ _) ?_))
     obtain ⟨w8', hX⟩ : ∃ Z9, Z9 = w7'.setRow (w.heap.size + 1) (smA (0) y5z) := ⟨_, rfl⟩
     rw [← hX]
     have n_o : Hid (RH w8' (w.heap.size + 1) (smA (0) y5z) 59) := by rw [hX]; exact Lib.hid (HR_o.out.row _)
     have n_m : Hid (RH w8' w.heap.size (mrA (n) r) 35) := by rw [hX]; exact Lib.hid (HR_m.out.row_other (show w.heap.size ≠ (w.heap.size + 1) by omega) _)
     have n_s : Hid (RH w8' b_s (smA (n) t) 59) := by rw [hX]; exact Lib.hid (HR_s.out.row_other (show b_s ≠ (w.heap.size + 1) by omega) _)
     have n_e : Hid (RH w8' b_e (eR b_s r) 111) := by rw [hX]; exact Lib.hid (HR_e.out.row_other (show b_e ≠ (w.heap.size + 1) by omega) _)
     have n_p : Hid (RH w8' b_p #[.string rn, .string rd, .pointer (some ⟨b_s, ok, none⟩)] 111) := by rw [hX]; exact Lib.hid (HR_p.out.row_other (show b_p ≠ (w.heap.size + 1) by omega) _)
     have n_x : Hid (RH w8' b_x #[.bool t1.b, .slice t1.a1 t1.n1 t1.c1, .slice t1.a2 t1.n2 t1.c2] 52) := by rw [hX]; exact Lib.hid (HR_x.out.row_other (show b_x ≠ (w.heap.size + 1) by omega) _)
     have HK_ : ∀ p : Addr, p.block ≠ (w.heap.size + 1) → w8'.cell? p = w7'.cell? p := fun p hp => by rw [hX]; exact cell_setRow_other _ _ _ p hp
     have n_HSK : Hid (SK w8' t r k) := Lib.hid (HSK.out.far HR_o.out.box (sm_nw _ _) HK_)
     have n_HX1 : Hid (RsIf w8' (smF rn rd) t1 (rQ rn rd)) := Lib.hid (HX1.out.far HR_o.out.box (sm_nw _ _) HK_)
     have nW : Hid (Below w.heap.size w w8') := by rw [hX]; exact Lib.hid (below_setRow HW.out (show w.heap.size ≤ (w.heap.size + 1) by omega) _)
     clear hX HK_ HW HR_m HR_o HR_s HR_e HR_p HR_x HSK HX1
     have HR_m := n_m; clear n_m
     have HR_o := n_o; clear n_o
     have HR_s := n_s; clear n_s
     have HR_e := n_e; clear n_e
     have HR_p := n_p; clear n_p
     have HR_x := n_x; clear n_x
     have HSK := n_HSK; clear n_HSK
     have HX1 := n_HX1; clear n_HX1
     have HW := nW; clear nW
     refine bodyPost_ret (v := .tuple #[.agg (smA (0) y5z), .int .i64 (smF rn rd)]) ?_ rfl ⟨0, y5z, by rw [HP.out], (fun h => absurd (HP.out.symm.trans h) HNE.out), HW.out⟩
     have hld := run_loadVar_row (P := Tryz.prog) _ _ _ 59 _ _ _ HR_o.out Tryz.underlying59 rfl (sm_info _ _)
     rw [results_cell_tmp rfl]
     simp [asAddr, Result.andThen, hld]
   ·obtain rfl : k = 5 := by omega
    have HSM : Hid (smL r.l = 0) := HK
    have HP1 : Hid (momF n r = if posB n r.q = true then 0 else 13) := Lib.hid (by rw [HP0.out, if_neg (fun h => h HSM.out)])
    have HQL : Hid (QL r.q) := Lib.hid (by obtain ⟨q, _, e, hq⟩ := sm_five HSM.out; rw [e]; exact hq)
    have HX : Hid (SX X t r.q) := Lib.hid (HSK.out.all)
    clear HSK
    go_wp2_with (first | (refine wpList_load_row rfl _ _ rfl b_s rfl _ (smA (n) t) _ _ HR_s.out Tryz.underlying59 rfl (sm_info _ _) ?_))
    refine (possible_at n HNB.out.1 HNB.out.2 t r.q X HX.out HQL.out).mono ?_
    rintro e w5' ⟨rfl, hbz⟩
    replace HR_m := Lib.hid (HR_m.out.ext hbz)
    replace HR_o := Lib.hid (HR_o.out.ext hbz)
    replace HR_s := Lib.hid (HR_s.out.ext hbz)
    replace HR_e := Lib.hid (HR_e.out.ext hbz)
    replace HX := Lib.hid (HX.out.ext hbz)
    replace HW := Lib.hid (ext_trans HW.out hbz)
    clear hbz
    by_cases hp : posB n r.q = true
    ·have HP : Hid (momF n r = 0) := Lib.hid (by rw [HP1.out, if_pos hp])
     rw [hp]
     clear hp
     go_wp2_with (first | (refine wpList_load_row rfl _ _ rfl b_s rfl _ (smA (n) t) _ _ HR_s.out Tryz.underlying59 rfl (sm_info _ _) ?_) | (refine wpList_store_row rfl _ _ _ rfl (w.heap.size + 1) (smA (n) t) rfl rfl _ _ HR_o.out (sm_info _ _) rfl (sm_all _ _) ?_))
     obtain ⟨w6', hX⟩ : ∃ Z9, Z9 = w5'.setRow (w.heap.size + 1) (smA (n) t) := ⟨_, rfl⟩
     rw [← hX]
     have n_o : Hid (RH w6' (w.heap.size + 1) (smA (n) t) 59) := by rw [hX]; exact Lib.hid (HR_o.out.row _)
     have n_m : Hid (RH w6' w.heap.size (mrA (n) r) 35) := by rw [hX]; exact Lib.hid (HR_m.out.row_other (show w.heap.size ≠ (w.heap.size + 1) by omega) _)
     have n_s : Hid (RH w6' b_s (smA (n) t) 59) := by rw [hX]; exact Lib.hid (HR_s.out.row_other (show b_s ≠ (w.heap.size + 1) by omega) _)
     have n_e : Hid (RH w6' b_e (eR b_s r) 111) := by rw [hX]; exact Lib.hid (HR_e.out.row_other (show b_e ≠ (w.heap.size + 1) by omega) _)
     have HK_ : ∀ p : Addr, p.block ≠ (w.heap.size + 1) → w6'.cell? p = w5'.cell? p := fun p hp => by rw [hX]; exact cell_setRow_other _ _ _ p hp
     have n_HX : Hid (SX w6' t r.q) := Lib.hid (HX.out.far HR_o.out.box (sm_nw _ _) HK_)
     have nW : Hid (Below w.heap.size w w6') := by rw [hX]; exact Lib.hid (below_setRow HW.out (show w.heap.size ≤ (w.heap.size + 1) by omega) _)
     clear hX HK_ HW HR_m HR_o HR_s HR_e HX
     have HR_m := n_m; clear n_m
     have HR_o := n_o; clear n_o
     have HR_s := n_s; clear n_s
     have HR_e := n_e; clear n_e
     have HX := n_HX; clear n_HX
     have HW := nW; clear nW
     refine bodyPost_ret (v := .tuple #[.agg (smA (n) t), .int .i64 0]) ?_ rfl ⟨n, t, by rw [HP.out], (fun _ => ⟨rfl, HX.out⟩), HW.out⟩
     have hld := run_loadVar_row (P := Tryz.prog) _ _ _ 59 _ _ _ HR_o.out Tryz.underlying59 rfl (sm_info _ _)
     rw [results_cell_tmp rfl]
     simp [asAddr, Result.andThen, hld]
    ·have HP : Hid (momF n r = 13) := Lib.hid (by rw [HP1.out, if_neg hp])
     have HNE : Hid ((13 : Int) ≠ 0) := Lib.hid (by decide)
     have hp' : posB n r.q = false := by simpa using hp
     rw [hp']
     clear hp hp'
     go_wp2_with (first | (refine wpList_store_row rfl _ _ _ rfl (w.heap.size + 1) (smA (0) y5z) rfl rfl _ _ HR_o.out (sm_info _ _) rfl (sm_all _ _) ?_))
     obtain ⟨w6', hX⟩ : ∃ Z9, Z9 = w5'.setRow (w.heap.size + 1) (smA (0) y5z) := ⟨_, rfl⟩
     rw [← hX]
     have n_o : Hid (RH w6' (w.heap.size + 1) (smA (0) y5z) 59) := by rw [hX]; exact Lib.hid (HR_o.out.row _)
     have n_m : Hid (RH w6' w.heap.size (mrA (n) r) 35) := by rw [hX]; exact Lib.hid (HR_m.out.row_other (show w.heap.size ≠ (w.heap.size + 1) by omega) _)
     have n_s : Hid (RH w6' b_s (smA (n) t) 59) := by rw [hX]; exact Lib.hid (HR_s.out.row_other (show b_s ≠ (w.heap.size + 1) by omega) _)
     have n_e : Hid (RH w6' b_e (eR b_s r) 111) := by rw [hX]; exact Lib.hid (HR_e.out.row_other (show b_e ≠ (w.heap.size + 1) by omega) _)
     have HK_ : ∀ p : Addr, p.block ≠ (w.heap.size + 1) → w6'.cell? p = w5'.cell? p := fun p hp => by rw [hX]; exact cell_setRow_other _ _ _ p hp
     have n_HX : Hid (SX w6' t r.q) := Lib.hid (HX.out.far HR_o.out.box (sm_nw _ _) HK_)
     have nW : Hid (Below w.heap.size w w6') := by rw [hX]; exact Lib.hid (below_setRow HW.out (show w.heap.size ≤ (w.heap.size + 1) by omega) _)
     clear hX HK_ HW HR_m HR_o HR_s HR_e HX
     have HR_m := n_m; clear n_m
     have HR_o := n_o; clear n_o
     have HR_s := n_s; clear n_s
     have HR_e := n_e; clear n_e
     have HX := n_HX; clear n_HX
     have HW := nW; clear nW
     refine bodyPost_ret (v := .tuple #[.agg (smA (0) y5z), .int .i64 13]) ?_ rfl ⟨0, y5z, by rw [HP.out], (fun h => absurd (HP.out.symm.trans h) HNE.out), HW.out⟩
     have hld := run_loadVar_row (P := Tryz.prog) _ _ _ 59 _ _ _ HR_o.out Tryz.underlying59 rfl (sm_info _ _)
     rw [results_cell_tmp rfl]
     simp [asAddr, Result.andThen, hld]
 ·have HP : Hid (momF n r = 1) := Lib.hid (by unfold momF; rw [if_pos (by omega)])
  have HNE : Hid ((1 : Int) ≠ 0) := Lib.hid (by decide)
  go_wp2_with fail
  refine (mwithin_no n 0 20000 (by omega) w1').mono ?_
  rintro e w2' ⟨rfl, hw9⟩
  have hbz : Below w1'.heap.size w1' w2' := by rw [← hw9]; exact Below.refl _ _
  clear hw9
  replace HR_m := Lib.hid (HR_m.out.ext hbz)
  replace HR_o := Lib.hid (HR_o.out.ext hbz)
  replace HW := Lib.hid (ext_trans HW.out hbz)
  clear c_m_0
  clear hbz
  go_wp2_with (first | (refine wpList_store_row rfl _ _ _ rfl (w.heap.size + 1) (smA (0) y5z) rfl rfl _ _ HR_o.out (sm_info _ _) rfl (sm_all _ _) ?_))
  obtain ⟨w3', hX⟩ : ∃ Z9, Z9 = w2'.setRow (w.heap.size + 1) (smA (0) y5z) := ⟨_, rfl⟩
  rw [← hX]
  have n_o : Hid (RH w3' (w.heap.size + 1) (smA (0) y5z) 59) := by rw [hX]; exact Lib.hid (HR_o.out.row _)
  have n_m : Hid (RH w3' w.heap.size (mrA (n) r) 35) := by rw [hX]; exact Lib.hid (HR_m.out.row_other (show w.heap.size ≠ (w.heap.size + 1) by omega) _)
  have HK_ : ∀ p : Addr, p.block ≠ (w.heap.size + 1) → w3'.cell? p = w2'.cell? p := fun p hp => by rw [hX]; exact cell_setRow_other _ _ _ p hp
  have nW : Hid (Below w.heap.size w w3') := by rw [hX]; exact Lib.hid (below_setRow HW.out (show w.heap.size ≤ (w.heap.size + 1) by omega) _)
  clear hX HK_ HW HR_m HR_o 
  have HR_m := n_m; clear n_m
  have HR_o := n_o; clear n_o
  have HW := nW; clear nW
  refine bodyPost_ret (v := .tuple #[.agg (smA (0) y5z), .int .i64 1]) ?_ rfl ⟨0, y5z, by rw [HP.out], (fun h => absurd (HP.out.symm.trans h) HNE.out), HW.out⟩
  have hld := run_loadVar_row (P := Tryz.prog) _ _ _ 59 _ _ _ HR_o.out Tryz.underlying59 rfl (sm_info _ _)
  rw [results_cell_tmp rfl]
  simp [asAddr, Result.andThen, hld]
end Nm
end Go.Proofs.YtlbnjgnbpiidaaaGreatDoor
namespace Go.Proofs.YtlbnjgnbpiidaaaGreatDoor
open Go.RowKit
namespace Nm
/-- sums over arms: of what the spreads are -/
structure Arm where
  n : Int
  q : Q5
def aB : List Arm → Rat
  | [] => 0
  | a :: r => spB a.n a.q + aB r
def aC : List Arm → Rat
  | [] => 0
  | a :: r => spC a.n a.q + aC r
def slQ (l : List Arm) : Rat := if aB l = 0 then 0 else aC l / aB l
/-- what is left by a slope, in one arm -/
def rsQ (s : Rat) (a : Arm) : Rat := (spA a.n a.q - 2 * (s * spC a.n a.q)) + s * (s * spB a.n a.q)
/-- sums over arms of Y and of pairs -/
def aY : List Arm → Rat
  | [] => 0
  | a :: r => a.q.y + aY r
def aN : List Arm → Int
  | [] => 0
  | a :: r => a.n + aN r
/-- the mean without what Y tells -/
def adM (k mid : Rat) (a : Arm) : Rat := a.q.x / (a.n : Rat) - k * (a.q.y / (a.n : Rat) - mid)
theorem aB_app : ∀ (l : List Arm) (a : Arm), aB (l ++ [a]) = aB l + spB a.n a.q
  | [], a => by simp only [List.nil_append, aB]; grind
  | b :: r, a => by have h := aB_app r a; simp only [List.cons_append, aB, h]; grind
theorem aC_app : ∀ (l : List Arm) (a : Arm), aC (l ++ [a]) = aC l + spC a.n a.q
  | [], a => by simp only [List.nil_append, aC]; grind
  | b :: r, a => by have h := aC_app r a; simp only [List.cons_append, aC, h]; grind
theorem aN_app : ∀ (l : List Arm) (a : Arm), aN (l ++ [a]) = aN l + a.n
  | [], a => by simp only [List.nil_append, aN]; omega
  | b :: r, a => by have h := aN_app r a; simp only [List.cons_append, aN, h]; omega
end Nm
end Go.Proofs.YtlbnjgnbpiidaaaGreatDoor
namespace Go.Proofs.YtlbnjgnbpiidaaaGreatDoor
open Go.RowKit
namespace Nm
/-- moments, as they come in -/
structure MV where
 n : Int
 r : R5
def mnL (m : MV) : List Value := [.int .i64 m.n, .string m.r.x.n, .string m.r.x.d, .string m.r.y.n, .string m.r.y.d, .string m.r.xx.n, .string m.r.xx.d, .string m.r.yy.n, .string m.r.yy.d, .string m.r.xy.n, .string m.r.xy.d]
def MV.arm (m : MV) : Arm := ⟨m.n, m.r.q⟩
def armL (l : List MV) : List Arm := l.map MV.arm
/-- the first fault -/
def armsF : List MV → Int
 | [] => 0
 | m :: l => if momF m.n m.r ≠ 0 then momF m.n m.r else armsF l
theorem armsF_step {l : List MV} {k : Nat} (h : k < l.length) : armsF (l.drop k) = if momF l[k].n l[k].r ≠ 0 then momF l[k].n l[k].r else armsF (l.drop (k + 1)) := by
 rw [List.drop_eq_getElem_cons h]; rfl
theorem armsF_all : ∀ {l : List MV}, armsF l = 0 → ∀ m ∈ l, momF m.n m.r = 0
 | [], _, m, hm => by cases hm
 | a :: l, h, m, hm => by
  unfold armsF at h
  by_cases h1 : momF a.n a.r ≠ 0
  ·rw [if_pos h1] at h; exact absurd h h1
  ·rw [if_neg h1] at h
   rcases List.mem_cons.1 hm with rfl | hm
   ·simpa using h1
   ·exact armsF_all h m hm
def fewL (k : Int) (l : List MV) : Bool := l.any fun m => decide (m.n < k)
theorem fewL_no {c : Int} {l : List MV} (h : fewL c l = false) : ∀ m ∈ l, c ≤ m.n := fun m hm => by
 have := List.any_eq_false.1 h m hm
 simpa using this
def raF (k : Int) (l : List MV) : Int := if l.length = 0 then 9 else if 20 < l.length then 2 else if armsF l ≠ 0 then armsF l else if fewL k l = true then 9 else 0
theorem ra_parts {k : Int} {l : List MV} (h : raF k l = 0) : (0 < l.length ∧ l.length ≤ 20) ∧ armsF l = 0 ∧ fewL k l = false := by
 unfold raF at h
 by_cases h1 : l.length = 0
 ·rw [if_pos h1] at h; cases h
 ·rw [if_neg h1] at h
  by_cases h2 : 20 < l.length
  ·rw [if_pos h2] at h; cases h
  ·rw [if_neg h2] at h
   by_cases h3 : armsF l ≠ 0
   ·rw [if_pos h3] at h; exact absurd h h3
   ·rw [if_neg h3] at h
    by_cases h4 : fewL k l = true
    ·rw [if_pos h4] at h; cases h
    ·exact ⟨⟨by omega, by omega⟩, by simpa using h3, by simpa using h4⟩
/-- what each arm is, where all are right -/
theorem ra_arm {k : Int} {l : List MV} (h : raF k l = 0) {m : MV} (hm : m ∈ l) : (k ≤ m.n ∧ 0 ≤ m.n ∧ m.n ≤ 20000) ∧ momF m.n m.r = 0 ∧ m.r = m.r.q.r ∧ QL m.r.q ∧ posB m.n m.r.q = true := by
 obtain ⟨_, h2, h3⟩ := ra_parts h
 have h4 := armsF_all h2 m hm
 obtain ⟨⟨g1, g2⟩, _, q, e1, e2, hq, hp⟩ := mom_parts h4
 rw [e2]
 exact ⟨⟨fewL_no h3 m hm, g1, g2⟩, h4, e1, hq, hp⟩
theorem ra_two {l : List MV} (h : raF 1 l = 0) : raF 2 l = if fewL 2 l = true then 9 else 0 := by
 obtain ⟨⟨h1, h2⟩, h3, h4⟩ := ra_parts h
 unfold raF
 rw [if_neg (by omega), if_neg (by omega), if_neg (fun g => g h3)]
theorem ra_two_ne {l : List MV} (h : raF 1 l ≠ 0) : raF 2 l = raF 1 l := by
 unfold raF at h ⊢
 by_cases h1 : l.length = 0
 ·rw [if_pos h1, if_pos h1]
 ·rw [if_neg h1, if_neg h1]
  rw [if_neg h1] at h
  by_cases h2 : 20 < l.length
  ·rw [if_pos h2, if_pos h2]
  ·rw [if_neg h2, if_neg h2]
   rw [if_neg h2] at h
   by_cases h3 : armsF l ≠ 0
   ·rw [if_pos h3, if_pos h3]
   ·rw [if_neg h3, if_neg h3]
    rw [if_neg h3] at h
    by_cases h4 : fewL 1 l = true
    ·obtain ⟨m, hm, he⟩ := List.any_eq_true.1 h4
     have : fewL 2 l = true := List.any_eq_true.2 ⟨m, hm, by simp at he ⊢; omega⟩
     rw [if_pos h4, if_pos this]
    ·rw [if_neg h4] at h; exact absurd rfl h
end Nm
end Go.Proofs.YtlbnjgnbpiidaaaGreatDoor
