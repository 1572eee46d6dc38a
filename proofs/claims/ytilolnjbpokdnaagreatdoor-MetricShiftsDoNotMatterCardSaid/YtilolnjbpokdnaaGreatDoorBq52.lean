/- Sum of package metric. Printed by gen_mom.py. -/
import Derived.Test.YtilolnjbpokdnaaGreatDoorBq51
import Derived.Test.YtilolnjbpokdnaaGreatDoorBq49
namespace Go.Proofs.YtilolnjbpokdnaaGreatDoor
open Go.RowKit
namespace Nm
open _root_.Go.Proofs.YtilolnjbpokdnaaGreatDoor.Nt (RH RH.cell RH.box RH.row RH.lt RH.new RH.ext RH.fre RH.set RH.other RH.row_other store_cells)
theorem wInP (n : Int) (w : World) : Calls Tryz.prog 69 #[.int .i64 n, .int .i64 (-20000000000000000), .int .i64 20000000000000000] w fun e w' => e = .returned (.bool (okX n)) ∧ w = w' := mwithin_at n _ _ w
theorem wr_plain {n : Int} {q : Q5} (h : lgL q = false) : wrA n q = mrA n q.r ∧ wrF q = 0 := by
 unfold wrA wrF
 rw [h]; exact ⟨rfl, rfl⟩
theorem moZ_arr : moZ.toArray = mrA 0 r5z := rfl
theorem moC_arr (n : Int) (m : M5) : (moC n m).toArray = mrA n (m5q m).r := rfl
theorem sm_set9 (n : Int) (x y a b c d e f : Y3) : ((((((((((smA n ⟨x, y, a, b, c⟩).setIfInBounds 7 (.bool d.b)).setIfInBounds 8 (.slice d.a1 d.n1 d.c1)).setIfInBounds 9 (.slice d.a2 d.n2 d.c2)).setIfInBounds 10 (.bool e.b)).setIfInBounds 11 (.slice e.a1 e.n1 e.c1)).setIfInBounds 12 (.slice e.a2 e.n2 e.c2)).setIfInBounds 13 (.bool f.b)).setIfInBounds 14 (.slice f.a1 f.n1 f.c1)).setIfInBounds 15 (.slice f.a2 f.n2 f.c2)) = smA n ⟨x, y, d, e, f⟩ := by
 simp only [smA, List.setIfInBounds_toArray, List.set_cons_succ, List.set_cons_zero]
theorem M5Ln.qf {m : M5} (h : M5Ln m) : QF (m5q m) := ⟨h.x.fits (by omega) (by omega), h.y.fits (by omega) (by omega), h.xx.fits (by omega) (by omega), h.yy.fits (by omega) (by omega), h.xy.fits (by omega) (by omega)⟩
theorem M5Ln.qs {m : M5} (h : M5Ln m) : QS (m5q m) := ⟨h.x.sm (by omega) (by omega), h.y.sm (by omega) (by omega), h.xx.sm (by omega) (by omega), h.yy.sm (by omega) (by omega), h.xy.sm (by omega) (by omega)⟩
set_option maxRecDepth 100000 in
set_option maxHeartbeats 16000000 in
theorem sumP_at (l : List PX) (a : Option Addr) (c : Nat) (w : World) (hs : Sl w (.slice a l.length c) l.length (l.flatMap pxL)) :
  Calls Tryz.prog 22 #[.slice a l.length c] w fun e w' => e = .returned (.tuple #[.agg (sumV5 l).toArray, .int .i64 (sumF l)]) ∧ Below w.heap.size w w' := by
 have HS := Lib.hid hs
 clear hs
 go_enter Tryz.func22, Tryz.ntmps22
 go_upto_region 1 with (fail)
 refine wp_rows1 fun w1' hbz hR0 => ?_
 have HR_o : Hid (RH w1' w.heap.size (mrA (0) r5z) 47) := Lib.hid hR0
 have HW := Lib.hid hbz
 clear hbz hR0
 by_cases h1 : 20000 < l.length
 ·have HE1 : Hid (sumF l = 2) := Lib.hid (by unfold sumF; rw [if_pos h1])
  have HV : Hid (sumV5 l = moZ ∧ sumF l = 2) := Lib.hid ⟨by unfold sumV5; rw [if_neg (by rw [HE1.out]; decide)], HE1.out⟩
  have hl1 : (20000 : Int) < (l.length : Int) := by omega
  clear h1
  go_wp2_with (first | (refine wpList_store_row rfl _ _ _ rfl w.heap.size (mrA (0) r5z) rfl rfl _ _ HR_o.out (mr_info _ _) rfl (mr_all _ _) ?_))
  obtain ⟨w2', hX⟩ : ∃ Z9, Z9 = w1'.setRow w.heap.size (mrA (0) r5z) := ⟨_, rfl⟩
  rw [← hX]
  have n_o : Hid (RH w2' w.heap.size (mrA (0) r5z) 47) := by rw [hX]; exact Lib.hid (HR_o.out.row _)
  have HK_ : ∀ p : Addr, p.block ≠ w.heap.size → w2'.cell? p = w1'.cell? p := fun p hp => by rw [hX]; exact cell_setRow_other _ _ _ p hp
  have nW : Hid (Below w.heap.size w w2') := by rw [hX]; exact Lib.hid (below_setRow HW.out (show w.heap.size ≤ w.heap.size by omega) _)
  clear hX HK_ HW HR_o 
  have HR_o := n_o; clear n_o
  have HW := nW; clear nW
  refine bodyPost_ret (v := .tuple #[.agg (mrA (0) r5z), .int .i64 2]) ?_ rfl ⟨by rw [HV.out.1, HV.out.2]; rfl, HW.out⟩
  have hld := run_loadVar_row (P := Tryz.prog) _ _ _ 47 _ _ _ HR_o.out Tryz.underlying47 rfl (mr_info _ _)
  rw [results_cell_tmp rfl]
  simp [asAddr, Result.andThen, hld]
 ·have HF : Hid (sumF l = if badX l = true then 1 else 0) := Lib.hid (by unfold sumF; rw [if_neg h1])
  have hl0 : l.length ≤ 20000 := by omega
  have hl1 : ¬ (20000 : Int) < (l.length : Int) := by omega
  clear h1
  go_wp2
  clear hl1
  go_loopw [15] (fun i wr => ∃ k : Nat, k ≤ l.length ∧ i = .int .i64 (k : Int) ∧ Hid (badX l = badX (l.drop k)) ∧ (RH wr w.heap.size (mrA (0) r5z) 47) ∧ (Below w.heap.size w wr)) (fun i _ => l.length - (intOf i).toNat)
  case atStart => exact ⟨0, by omega, rfl, rfl, HR_o.out, HW.out⟩
  case round =>
   obtain ⟨k, hk, rfl, HK, q_HR_o, q_HW⟩ := hrel
   clear HR_o HW
   have HR_o := Lib.hid q_HR_o
   have HW := Lib.hid q_HW
   clear q_HR_o q_HW
   generalize hX : wr = X at *
   clear hX
   by_cases hlt : k < l.length
   ·have hgk := List.getElem?_eq_getElem hlt
    have HPK := Lib.hid (List.getElem_mem hlt)
    have hk0 : (0 : Int) ≤ (k : Int) := Int.natCast_nonneg _
    have hk1 : (k : Int) < (l.length : Int) := by omega
    have hk3 : (k : Int).toNat = k := by omega
    have HST := Lib.hid (badX_step hlt)
    generalize l[k] = p at hgk HPK HST
    obtain ⟨px, py⟩ := p
    obtain ⟨pb, po, hp9, hcs⟩ := (HS.out.ext HW.out).elem (f := pxL) (fun _ => rfl) (by omega : 0 < 2) hgk
    have e0 : X.cell? ⟨pb, po + k * 2, none⟩ = some (.int .i64 px) := hcs 0 _ rfl
    have e1 : X.cell? ⟨pb, po + k * 2 + 1, none⟩ = some (.int .i64 py) := hcs 1 _ rfl
    clear hcs hgk HPK
    subst hp9
    go_upto_region 6 with (fail)
    refine wp_rows1 fun w2' hbz hR0 => ?_
    have lt_o_p : w.heap.size < X.heap.size := HR_o.out.lt
    have le_p : w.heap.size ≤ X.heap.size := HW.out.size
    replace HR_o := Lib.hid (HR_o.out.ext hbz)
    replace HW := Lib.hid (ext_trans HW.out hbz)
    clear e0 e1
    clear hbz
    have HR_p : Hid (RH w2' X.heap.size #[.int .i64 px, .int .i64 py] 53) := Lib.hid hR0
    clear hR0
    generalize X.heap.size = b_p at *
    obtain ⟨c_p_0, c_p_1⟩ := zs2 HR_p.out
    obtain ⟨bx, hbx⟩ : ∃ b, okX px = b := ⟨_, rfl⟩
    obtain ⟨by', hby⟩ : ∃ b, okX py = b := ⟨_, rfl⟩
    have HBB := Lib.hid (And.intro hbx hby)
    clear hbx hby
    go_wp2_with fail
    refine (wInP px w2').mono ?_
    rintro e w' ⟨rfl, rfl⟩
    rw [HBB.out.1]
    cases bx
    ·have HE1 : Hid (sumF l = 1) := Lib.hid (by rw [HF.out, if_pos (by rw [HK.out, HST.out, if_neg (by unfold okP; simp [HBB.out.1, HBB.out.2])])])
     have HV : Hid (sumV5 l = moZ ∧ sumF l = 1) := Lib.hid ⟨by unfold sumV5; rw [if_neg (by rw [HE1.out]; decide)], HE1.out⟩
     go_wp2_with (first | (refine wpList_store_row rfl _ _ _ rfl w.heap.size (mrA (0) r5z) rfl rfl _ _ HR_o.out (mr_info _ _) rfl (mr_all _ _) ?_))
     obtain ⟨w3', hX⟩ : ∃ Z9, Z9 = w2'.setRow w.heap.size (mrA (0) r5z) := ⟨_, rfl⟩
     rw [← hX]
     have n_o : Hid (RH w3' w.heap.size (mrA (0) r5z) 47) := by rw [hX]; exact Lib.hid (HR_o.out.row _)
     have n_p : Hid (RH w3' b_p #[.int .i64 px, .int .i64 py] 53) := by rw [hX]; exact Lib.hid (HR_p.out.row_other (show b_p ≠ w.heap.size by omega) _)
     have HK_ : ∀ p : Addr, p.block ≠ w.heap.size → w3'.cell? p = w2'.cell? p := fun p hp => by rw [hX]; exact cell_setRow_other _ _ _ p hp
     have nW : Hid (Below w.heap.size w w3') := by rw [hX]; exact Lib.hid (below_setRow HW.out (show w.heap.size ≤ w.heap.size by omega) _)
     clear c_p_0 c_p_1
     clear hX HK_ HW HR_o HR_p 
     have HR_o := n_o; clear n_o
     have HR_p := n_p; clear n_p
     have HW := nW; clear nW
     refine bodyPost_ret (v := .tuple #[.agg (mrA (0) r5z), .int .i64 1]) ?_ rfl ⟨by rw [HV.out.1, HV.out.2]; rfl, HW.out⟩
     have hld := run_loadVar_row (P := Tryz.prog) _ _ _ 47 _ _ _ HR_o.out Tryz.underlying47 rfl (mr_info _ _)
     rw [results_cell_tmp rfl]
     simp [asAddr, Result.andThen, hld]
    ·go_wp2_with fail
     refine (wInP py w2').mono ?_
     rintro e w' ⟨rfl, rfl⟩
     rw [HBB.out.2]
     cases by'
     ·have HE1 : Hid (sumF l = 1) := Lib.hid (by rw [HF.out, if_pos (by rw [HK.out, HST.out, if_neg (by unfold okP; simp [HBB.out.1, HBB.out.2])])])
      have HV : Hid (sumV5 l = moZ ∧ sumF l = 1) := Lib.hid ⟨by unfold sumV5; rw [if_neg (by rw [HE1.out]; decide)], HE1.out⟩
      go_wp2_with (first | (refine wpList_store_row rfl _ _ _ rfl w.heap.size (mrA (0) r5z) rfl rfl _ _ HR_o.out (mr_info _ _) rfl (mr_all _ _) ?_))
      obtain ⟨w3', hX⟩ : ∃ Z9, Z9 = w2'.setRow w.heap.size (mrA (0) r5z) := ⟨_, rfl⟩
      rw [← hX]
      have n_o : Hid (RH w3' w.heap.size (mrA (0) r5z) 47) := by rw [hX]; exact Lib.hid (HR_o.out.row _)
      have n_p : Hid (RH w3' b_p #[.int .i64 px, .int .i64 py] 53) := by rw [hX]; exact Lib.hid (HR_p.out.row_other (show b_p ≠ w.heap.size by omega) _)
      have HK_ : ∀ p : Addr, p.block ≠ w.heap.size → w3'.cell? p = w2'.cell? p := fun p hp => by rw [hX]; exact cell_setRow_other _ _ _ p hp
      have nW : Hid (Below w.heap.size w w3') := by rw [hX]; exact Lib.hid (below_setRow HW.out (show w.heap.size ≤ w.heap.size by omega) _)
      clear c_p_0 c_p_1
      clear hX HK_ HW HR_o HR_p 
      have HR_o := n_o; clear n_o
      have HR_p := n_p; clear n_p
      have HW := nW; clear nW
      refine bodyPost_ret (v := .tuple #[.agg (mrA (0) r5z), .int .i64 1]) ?_ rfl ⟨by rw [HV.out.1, HV.out.2]; rfl, HW.out⟩
      have hld := run_loadVar_row (P := Tryz.prog) _ _ _ 47 _ _ _ HR_o.out Tryz.underlying47 rfl (mr_info _ _)
      rw [results_cell_tmp rfl]
      simp [asAddr, Result.andThen, hld]
     ·have HN : Hid (badX l = badX (l.drop (k + 1))) := Lib.hid (by rw [HK.out, HST.out, if_pos (by unfold okP; simp [HBB.out.1, HBB.out.2])])
      clear HR_p
      clear c_p_0 c_p_1
      go_wp2
      go_roundw
      case rel => exact ⟨k + 1, by omega, by go_num, HN, HR_o.out, HW.out⟩
      case measure => simp [intOf]; omega
   ·have HFB : Hid (badX l = false) := Lib.hid (by rw [HK.out, List.drop_of_length_le (show l.length ≤ k by omega)]; rfl)
    have HF0 : Hid (sumF l = 0) := Lib.hid (by rw [HF.out, if_neg (by rw [HFB.out]; decide)])
    have HAL := Lib.hid (badX_all HFB.out)
    clear HK HF
    go_wp2_with fail
    refine (none_at 0 rfl X).mono ?_
    rintro e w2' ⟨t0, rfl, hx0, hbz⟩
    replace HR_o := Lib.hid (HR_o.out.ext hbz)
    replace HW := Lib.hid (ext_trans HW.out hbz)
    clear hbz
    have HX : Hid (SX w2' t0 ⟨0, 0, 0, 0, 0⟩) := Lib.hid hx0
    clear hx0
    have hsz : (smA (0) t0).size = 16 := rfl
    have hsc := run_storeCells_new (P := Tryz.prog) w2' 110 #[.int .i64 0, .bool false, .slice none 0 0, .slice none 0 0, .bool false, .slice none 0 0, .slice none 0 0, .bool false, .slice none 0 0, .slice none 0 0, .bool false, .slice none 0 0, .slice none 0 0, .bool false, .slice none 0 0, .slice none 0 0] (smA (0) t0) (sm_info _ _) rfl (sm_all _ _)
    go_upto_region 10 with (fail)
    clear hsc hsz
    refine wp_rows1 fun w3' hbz hR0 => ?_
    have lt_o_s : w.heap.size < w2'.heap.size := HR_o.out.lt
    have le_s : w.heap.size ≤ w2'.heap.size := HW.out.size
    replace HR_o := Lib.hid (HR_o.out.ext hbz)
    replace HX := Lib.hid (HX.out.ext hbz)
    replace HW := Lib.hid (ext_trans HW.out hbz)
    clear hbz
    have HR_s : Hid (RH w3' w2'.heap.size (smA (0) t0) 110) := Lib.hid hR0
    clear hR0
    generalize w2'.heap.size = b_s at *
    obtain ⟨c_s_0, -, -, -, -, -, -, -, -, -, -, -, -, -, -, -⟩ := zs16 HR_s.out
    have f_s_0 := HR_s.out.fre 0
    go_upto_region 11 with (fail)
    obtain ⟨w4', hX⟩ : ∃ Z9, Z9 = (w3'.setCell ⟨b_s, 0, none⟩ (.int .i64 (l.length : Int))) := ⟨_, rfl⟩
    rw [← hX]
    have n_s : Hid (RH w4' b_s (smA ((l.length : Int)) t0) 110) := by rw [hX]; exact Lib.hid ((HR_s.out).set 0 (.int .i64 (l.length : Int)))
    have n_o : Hid (RH w4' w.heap.size (mrA (0) r5z) 47) := by rw [hX]; exact Lib.hid (zzo (HR_o.out) (by omega))
    have HK_ : ∀ p : Addr, p.block ≠ b_s → w4'.cell? p = w3'.cell? p := fun p hp => by rw [hX]; exact cs_other hp
    have n_HX : Hid (SX w4' t0 ⟨0, 0, 0, 0, 0⟩) := Lib.hid (HX.out.far HR_s.out.box (sm_nw _ _) HK_)
    have nW : Hid (Below w.heap.size w w4') := by rw [hX]; exact Lib.hid (zzw (HW.out) (by omega))
    clear c_s_0 f_s_0
    clear hX HK_ HW HR_o HR_s HX
    have HR_o := n_o; clear n_o
    have HR_s := n_s; clear n_s
    have HX := n_HX; clear n_HX
    have HW := nW; clear nW
    replace HX : Hid (SX w4' t0 (m5q m5z)) := HX
    clear hk hlt
    go_wp2
    go_loopw [37] (fun i wr => ∃ (k : Nat) (m : M5) (t : Y5), k ≤ l.length ∧ i = .int .i64 (k : Int) ∧ Hid (m5L m (l.drop k) = m5L m5z l) ∧ Hid (M5Ok k m) ∧ (RH wr w.heap.size (mrA (0) r5z) 47) ∧ (RH wr b_s (smA ((l.length : Int)) t) 110) ∧ (SX wr t (m5q m)) ∧ (Below w.heap.size w wr)) (fun i _ => l.length - (intOf i).toNat)
    case atStart => exact ⟨0, m5z, t0, by omega, rfl, rfl, M5Ok.zero, HR_o.out, HR_s.out, HX.out, HW.out⟩
    case round =>
     obtain ⟨k, m, t, hk, rfl, HML, HMO, q_HR_o, q_HR_s, q_HX, q_HW⟩ := hrel
     clear HR_o HR_s HX HW
     have HR_o := Lib.hid q_HR_o
     have HR_s := Lib.hid q_HR_s
     have HX := Lib.hid q_HX
     have HW := Lib.hid q_HW
     clear q_HR_o q_HR_s q_HX q_HW
     generalize hX : wr = Y at *
     clear hX
     by_cases hlt : k < l.length
     ·have hgk := List.getElem?_eq_getElem hlt
      have HPK := Lib.hid (HAL.out _ (List.getElem_mem hlt))
      have hk0 : (0 : Int) ≤ (k : Int) := Int.natCast_nonneg _
      have hk1 : (k : Int) < (l.length : Int) := by omega
      have hk3 : (k : Int).toNat = k := by omega
      have HST := Lib.hid ((m5L_step hlt m).symm.trans HML.out)
      generalize l[k] = p at hgk HPK HST
      obtain ⟨px, py⟩ := p
      obtain ⟨pb, po, hp9, hcs⟩ := (HS.out.ext HW.out).elem (f := pxL) (fun _ => rfl) (by omega : 0 < 2) hgk
      have e0 : Y.cell? ⟨pb, po + k * 2, none⟩ = some (.int .i64 px) := hcs 0 _ rfl
      have e1 : Y.cell? ⟨pb, po + k * 2 + 1, none⟩ = some (.int .i64 py) := hcs 1 _ rfl
      clear hcs hgk
      subst hp9
      clear HML
      go_upto_region 14 with (fail)
      refine wp_rows1 fun w5' hbz hR0 => ?_
      have lt_o_p : w.heap.size < Y.heap.size := HR_o.out.lt
      have lt_s_p : b_s < Y.heap.size := HR_s.out.lt
      have le_p : w.heap.size ≤ Y.heap.size := HW.out.size
      replace HR_o := Lib.hid (HR_o.out.ext hbz)
      replace HR_s := Lib.hid (HR_s.out.ext hbz)
      replace HX := Lib.hid (HX.out.ext hbz)
      replace HW := Lib.hid (ext_trans HW.out hbz)
      clear e0 e1
      clear hbz
      have HR_p : Hid (RH w5' Y.heap.size #[.int .i64 px, .int .i64 py] 53) := Lib.hid hR0
      clear hR0
      generalize Y.heap.size = b_p at *
      have HM2 := Lib.hid (HMO.out.step HPK.out)
      have HL1 := Lib.hid (HMO.out.ln (by omega))
      obtain ⟨bx1, bx2⟩ : (-20000000000000000 ≤ px ∧ px ≤ 20000000000000000) ∧ -20000000000000000 ≤ py ∧ py ≤ 20000000000000000 := okP_iff.1 HPK.out
      obtain ⟨m', hm'⟩ : ∃ m', m5s m ⟨px, py⟩ = m' := ⟨_, rfl⟩
      obtain ⟨p, hp⟩ : ∃ z, m5q m = z := ⟨_, rfl⟩
      obtain ⟨q, hq⟩ : ∃ z, m5q m' = z := ⟨_, rfl⟩
      obtain ⟨x1, hx1⟩ : ∃ z : Rat, ((px : Int) : Rat) = z := ⟨_, rfl⟩
      obtain ⟨y1, hy1⟩ : ∃ z : Rat, ((py : Int) : Rat) = z := ⟨_, rfl⟩
      obtain ⟨xx, hxx⟩ : ∃ z : Rat, x1 * x1 = z := ⟨_, rfl⟩
      obtain ⟨yy, hyy⟩ : ∃ z : Rat, y1 * y1 = z := ⟨_, rfl⟩
      obtain ⟨xy, hxy⟩ : ∃ z : Rat, x1 * y1 = z := ⟨_, rfl⟩
      have HEQ : Hid (p.x + x1 = q.x ∧ p.y + y1 = q.y ∧ p.xx + xx = q.xx ∧ p.yy + yy = q.yy ∧ p.xy + xy = q.xy) := Lib.hid (by
       rw [← hp, ← hq, ← hm', ← hxx, ← hyy, ← hxy, ← hx1, ← hy1]
       simp only [m5q, m5s, Rat.intCast_add, Rat.intCast_mul, and_self])
      have HP1 : Hid (QS p) := Lib.hid (by rw [← hp]; exact HL1.out.qs)
      have hx5 : Ln 17 0 x1 := by rw [← hx1]; exact Ln.int (by omega)
      have hy5 : Ln 17 0 y1 := by rw [← hy1]; exact Ln.int (by omega)
      have HSM : Hid (Sm x1 ∧ Sm y1 ∧ Sm xx ∧ Sm yy ∧ Sm xy) := Lib.hid ⟨hx5.sm (by omega) (by omega), hy5.sm (by omega) (by omega), by rw [← hxx]; exact (hx5.mul hx5).sm (by omega) (by omega), by rw [← hyy]; exact (hy5.mul hy5).sm (by omega) (by omega), by rw [← hxy]; exact (hx5.mul hy5).sm (by omega) (by omega)⟩
      clear hx5 hy5
      have HET : Hid (((px : Int) : Rat) * ((px : Int) : Rat) = xx ∧ ((py : Int) : Rat) * ((py : Int) : Rat) = yy ∧ ((px : Int) : Rat) * ((py : Int) : Rat) = xy ∧ ((px : Int) : Rat) = x1 ∧ ((py : Int) : Rat) = y1) := Lib.hid (by rw [hx1, hy1]; exact ⟨hxx, hyy, hxy, rfl, rfl⟩)
      rw [hm'] at HM2 HST
      have HQ := Lib.hid hq
      replace HX : Hid (SX w5' t p) := Lib.hid (by rw [← hp]; exact HX.out)
      clear hx1 hy1 hxx hyy hxy hm' hp hq HMO HL1
      obtain ⟨-, c_s_1, c_s_2, c_s_3, c_s_4, c_s_5, c_s_6, -, -, -, -, -, -, -, -, -⟩ := zs16 HR_s.out
      obtain ⟨c_p_0, c_p_1⟩ := zs2 HR_p.out
      refine Grow.wp_region_grow 13 [TP.eq (.pointer (some ⟨b_s, 1, none⟩)), TP.eq (.agg #[.bool t.x.b, .slice t.x.a1 t.x.n1 t.x.c1, .slice t.x.a2 t.x.n2 t.x.c2]), TP.eq (.pointer (some ⟨b_p, 0, none⟩)), TP.eq (.int .i64 px), TP.xq x1, TP.xq q.x, TP.eq (.pointer (some ⟨b_s, 4, none⟩)), TP.eq (.agg #[.bool t.y.b, .slice t.y.a1 t.y.n1 t.y.c1, .slice t.y.a2 t.y.n2 t.y.c2]), TP.eq (.pointer (some ⟨b_p, 1, none⟩)), TP.eq (.int .i64 py), TP.xq y1, TP.xq q.y, TP.eq (.pointer (some ⟨b_s, 1, none⟩))] [[], [0], [], [2], [3], [1, 4], [], [6], [], [8], [9], [7, 10], []] (by kernel_rfl) (by kernel_rfl) ⟨?o0s, ?o1s, ?o2s, ?o3s, ?o4s, ?o5s, ?o6s, ?o7s, ?o8s, ?o9s, ?o10s, ?o11s, ?o12s, trivial⟩ ?_
      case o0s | o2s | o6s | o8s | o12s =>
       intro w' hb
       show wpList _ _ _ _ _ _
       go_wp2
       exact ⟨rfl, Below.refl _ _, rfl⟩
      case o1s =>
       intro w' hb v1 hv1
       obtain rfl : v1 = _ := hv1
       have c_s_1' := zzc hb c_s_1
       have c_s_2' := zzc hb c_s_2
       have c_s_3' := zzc hb c_s_3
       show wpList _ _ _ _ _ _
       simp only [Grow.dstOf, zz1, zz3, zz4, Act.put, zz5, zz6, zz7]
       go_wp2
       exact ⟨rfl, Below.refl _ _, rfl⟩
      case o3s | o7s | o9s =>
       intro w' hb v1 hv1
       obtain rfl : v1 = _ := hv1
       have c_p_0' := zzc hb c_p_0
       have c_s_4' := zzc hb c_s_4
       have c_s_5' := zzc hb c_s_5
       have c_s_6' := zzc hb c_s_6
       have c_p_1' := zzc hb c_p_1
       show wpList _ _ _ _ _ _
       simp only [Grow.dstOf, zz1, zz2, zz3, zz4, Act.put, zz5, zz6, zz7]
       go_wp2
       exact ⟨rfl, Below.refl _ _, rfl⟩
      case o4s =>
       intro w' hb v1 hv1
       obtain rfl : v1 = _ := hv1
       show wpList _ _ _ _ _ _
       simp only [Grow.dstOf, zz1, zz2, zz3, zz4, Act.put, zz5, zz6, zz7]
       go_wp2_with fail
       refine (mwhole_is px x1 HET.out.2.2.2.1 (by omega) (by omega) w').mono ?_
       rintro e wz ⟨vz, rfl, hxz, hbz⟩
       go_wp2
       exact ⟨hxz, hbz, rfl⟩
      case o5s =>
       intro w' hb v1 hv1 v2 hv2
       obtain rfl : v1 = _ := hv1
       have hv2' : XR w' v2 x1 := hv2
       clear hv2
       show wpList _ _ _ _ _ _
       simp only [Grow.dstOf, zz1, zz2, zz3, zz4, Act.put, zz5, zz6, zz7]
       go_wp2_with fail
       refine (xplus_sm p.x x1 q.x HEQ.out.1 _ _ w' (HX.out.x.ext hb) hv2' HP1.out.x HSM.out.1).mono ?_
       rintro e wz ⟨vz, rfl, hxz, hbz⟩
       go_wp2
       exact ⟨hxz, hbz, rfl⟩
      case o10s =>
       intro w' hb v1 hv1
       obtain rfl : v1 = _ := hv1
       show wpList _ _ _ _ _ _
       simp only [Grow.dstOf, zz1, zz2, zz3, zz4, Act.put, zz5, zz6, zz7]
       go_wp2_with fail
       refine (mwhole_is py y1 HET.out.2.2.2.2 (by omega) (by omega) w').mono ?_
       rintro e wz ⟨vz, rfl, hxz, hbz⟩
       go_wp2
       exact ⟨hxz, hbz, rfl⟩
      case o11s =>
       intro w' hb v1 hv1 v2 hv2
       obtain rfl : v1 = _ := hv1
       have hv2' : XR w' v2 y1 := hv2
       clear hv2
       show wpList _ _ _ _ _ _
       simp only [Grow.dstOf, zz1, zz2, zz3, zz4, Act.put, zz5, zz6, zz7]
       go_wp2_with fail
       refine (xplus_sm p.y y1 q.y HEQ.out.2.1 _ _ w' (HX.out.y.ext hb) hv2' HP1.out.y HSM.out.2.1).mono ?_
       rintro e wz ⟨vz, rfl, hxz, hbz⟩
       go_wp2
       exact ⟨hxz, hbz, rfl⟩
      intro w6' hbz u0 hu0 u1 hu1 u2 hu2 u3 hu3 u4 hu4 u5 hu5 u6 hu6 u7 hu7 u8 hu8 u9 hu9 u10 hu10 u11 hu11 u12 hu12
      obtain rfl : u12 = _ := hu12
      clear hu0 hu1 hu2 hu3 hu4 hu6 hu7 hu8 hu9 hu10
      replace HR_o := Lib.hid (HR_o.out.ext hbz)
      replace HR_s := Lib.hid (HR_s.out.ext hbz)
      replace HR_p := Lib.hid (HR_p.out.ext hbz)
      replace HX := Lib.hid (HX.out.ext hbz)
      replace HW := Lib.hid (ext_trans HW.out hbz)
      clear c_s_1 c_s_2 c_s_3 c_s_4 c_s_5 c_s_6 c_p_0 c_p_1
      clear hbz
      have h1 : XR w6' u5 q.x := hu5
      clear hu5
      obtain ⟨t1, rfl, hx1⟩ := h1.y3
      clear h1
      have HX1 : Hid (XR w6' (y3V t1) q.x) := Lib.hid (hx1)
      clear hx1
      have h2 : XR w6' u11 q.y := hu11
      clear hu11
      obtain ⟨t2, rfl, hx2⟩ := h2.y3
      clear h2
      have HX2 : Hid (XR w6' (y3V t2) q.y) := Lib.hid (hx2)
      clear hx2
      show wpList _ _ _ _ _ _
      simp only [Act.put, zz5, zz6, zz7]
      obtain ⟨-, c_s_1, c_s_2, c_s_3, c_s_4, c_s_5, c_s_6, -, -, -, -, -, -, -, -, -⟩ := zs16 HR_s.out
      have f_s_1 := HR_s.out.fre 1
      have f_s_2 := HR_s.out.fre 2
      have f_s_3 := HR_s.out.fre 3
      have f_s_4 := HR_s.out.fre 4
      have f_s_5 := HR_s.out.fre 5
      have f_s_6 := HR_s.out.fre 6
      go_upto_region 15 with (fail)
      obtain ⟨w7', hX⟩ : ∃ Z9, Z9 = ((((((w6'.setCell ⟨b_s, 1, none⟩ (.bool t1.b)).setCell ⟨b_s, 2, none⟩ (.slice t1.a1 t1.n1 t1.c1)).setCell ⟨b_s, 3, none⟩ (.slice t1.a2 t1.n2 t1.c2)).setCell ⟨b_s, 4, none⟩ (.bool t2.b)).setCell ⟨b_s, 5, none⟩ (.slice t2.a1 t2.n1 t2.c1)).setCell ⟨b_s, 6, none⟩ (.slice t2.a2 t2.n2 t2.c2)) := ⟨_, rfl⟩
      rw [← hX]
      have n_s : Hid (RH w7' b_s (smA ((l.length : Int)) ⟨t1, t2, t.xx, t.yy, t.xy⟩) 110) := by rw [hX]; exact Lib.hid (((((((HR_s.out).set 1 (.bool t1.b)).set 2 (.slice t1.a1 t1.n1 t1.c1)).set 3 (.slice t1.a2 t1.n2 t1.c2)).set 4 (.bool t2.b)).set 5 (.slice t2.a1 t2.n1 t2.c1)).set 6 (.slice t2.a2 t2.n2 t2.c2))
      have n_o : Hid (RH w7' w.heap.size (mrA (0) r5z) 47) := by rw [hX]; exact Lib.hid (zzo (zzo (zzo (zzo (zzo (zzo (HR_o.out) (by omega)) (by omega)) (by omega)) (by omega)) (by omega)) (by omega))
      have n_p : Hid (RH w7' b_p #[.int .i64 px, .int .i64 py] 53) := by rw [hX]; exact Lib.hid (zzo (zzo (zzo (zzo (zzo (zzo (HR_p.out) (by omega)) (by omega)) (by omega)) (by omega)) (by omega)) (by omega))
      have HK_ : ∀ p : Addr, p.block ≠ b_s → w7'.cell? p = w6'.cell? p := fun p hp => by rw [hX]; exact (cs_other hp).trans ((cs_other hp).trans ((cs_other hp).trans ((cs_other hp).trans ((cs_other hp).trans (cs_other hp)))))
      have n_HX : Hid (SX w7' t p) := Lib.hid (HX.out.far HR_s.out.box (sm_nw _ _) HK_)
      have n_HX1 : Hid (XR w7' (y3V t1) q.x) := Lib.hid (HX1.out.far HR_s.out.box (sm_nw _ _) HK_)
      have n_HX2 : Hid (XR w7' (y3V t2) q.y) := Lib.hid (HX2.out.far HR_s.out.box (sm_nw _ _) HK_)
      have nW : Hid (Below w.heap.size w w7') := by rw [hX]; exact Lib.hid (zzw (zzw (zzw (zzw (zzw (zzw (HW.out) (by omega)) (by omega)) (by omega)) (by omega)) (by omega)) (by omega))
      clear c_s_1 c_s_2 c_s_3 c_s_4 c_s_5 c_s_6 f_s_1 f_s_2 f_s_3 f_s_4 f_s_5 f_s_6
      clear hX HK_ HW HR_o HR_s HR_p HX HX1 HX2
      have HR_o := n_o; clear n_o
      have HR_s := n_s; clear n_s
      have HR_p := n_p; clear n_p
      have HX := n_HX; clear n_HX
      have HX1 := n_HX1; clear n_HX1
      have HX2 := n_HX2; clear n_HX2
      have HW := nW; clear nW
      have c_s_7 : w7'.cell? ⟨b_s, 7, none⟩ = some (.bool t.xx.b) := (HR_s.out.cell 7).trans rfl
      have c_s_8 : w7'.cell? ⟨b_s, 8, none⟩ = some (.slice t.xx.a1 t.xx.n1 t.xx.c1) := (HR_s.out.cell 8).trans rfl
      have c_s_9 : w7'.cell? ⟨b_s, 9, none⟩ = some (.slice t.xx.a2 t.xx.n2 t.xx.c2) := (HR_s.out.cell 9).trans rfl
      have c_s_10 : w7'.cell? ⟨b_s, 10, none⟩ = some (.bool t.yy.b) := (HR_s.out.cell 10).trans rfl
      have c_s_11 : w7'.cell? ⟨b_s, 11, none⟩ = some (.slice t.yy.a1 t.yy.n1 t.yy.c1) := (HR_s.out.cell 11).trans rfl
      have c_s_12 : w7'.cell? ⟨b_s, 12, none⟩ = some (.slice t.yy.a2 t.yy.n2 t.yy.c2) := (HR_s.out.cell 12).trans rfl
      have c_s_13 : w7'.cell? ⟨b_s, 13, none⟩ = some (.bool t.xy.b) := (HR_s.out.cell 13).trans rfl
      have c_s_14 : w7'.cell? ⟨b_s, 14, none⟩ = some (.slice t.xy.a1 t.xy.n1 t.xy.c1) := (HR_s.out.cell 14).trans rfl
      have c_s_15 : w7'.cell? ⟨b_s, 15, none⟩ = some (.slice t.xy.a2 t.xy.n2 t.xy.c2) := (HR_s.out.cell 15).trans rfl
      obtain ⟨c_p_0, c_p_1⟩ := zs2 HR_p.out
      refine Grow.wp_region_grow 25 [TP.eq (.pointer (some ⟨b_s, 7, none⟩)), TP.eq (.agg #[.bool t.xx.b, .slice t.xx.a1 t.xx.n1 t.xx.c1, .slice t.xx.a2 t.xx.n2 t.xx.c2]), TP.eq (.pointer (some ⟨b_p, 0, none⟩)), TP.eq (.int .i64 px), TP.eq (.pointer (some ⟨b_p, 0, none⟩)), TP.eq (.int .i64 px), TP.xq xx, TP.xq q.xx, TP.eq (.pointer (some ⟨b_s, 10, none⟩)), TP.eq (.agg #[.bool t.yy.b, .slice t.yy.a1 t.yy.n1 t.yy.c1, .slice t.yy.a2 t.yy.n2 t.yy.c2]), TP.eq (.pointer (some ⟨b_p, 1, none⟩)), TP.eq (.int .i64 py), TP.eq (.pointer (some ⟨b_p, 1, none⟩)), TP.eq (.int .i64 py), TP.xq yy, TP.xq q.yy, TP.eq (.pointer (some ⟨b_s, 13, none⟩)), TP.eq (.agg #[.bool t.xy.b, .slice t.xy.a1 t.xy.n1 t.xy.c1, .slice t.xy.a2 t.xy.n2 t.xy.c2]), TP.eq (.pointer (some ⟨b_p, 0, none⟩)), TP.eq (.int .i64 px), TP.eq (.pointer (some ⟨b_p, 1, none⟩)), TP.eq (.int .i64 py), TP.xq xy, TP.xq q.xy, TP.eq (.pointer (some ⟨b_s, 7, none⟩))] [[], [0], [], [2], [], [4], [3, 5], [1, 6], [], [8], [], [10], [], [12], [11, 13], [9, 14], [], [16], [], [18], [], [20], [19, 21], [17, 22], []] (by kernel_rfl) (by kernel_rfl) ⟨?o0z, ?o1z, ?o2z, ?o3z, ?o4z, ?o5z, ?o6z, ?o7z, ?o8z, ?o9z, ?o10z, ?o11z, ?o12z, ?o13z, ?o14z, ?o15z, ?o16z, ?o17z, ?o18z, ?o19z, ?o20z, ?o21z, ?o22z, ?o23z, ?o24z, trivial⟩ ?_
      case o0z | o2z | o4z | o8z | o10z | o12z | o16z | o18z | o20z | o24z =>
       intro w' hb
       show wpList _ _ _ _ _ _
       go_wp2
       exact ⟨rfl, Below.refl _ _, rfl⟩
      case o1z =>
       intro w' hb v1 hv1
       obtain rfl : v1 = _ := hv1
       have c_s_7' := zzc hb c_s_7
       have c_s_8' := zzc hb c_s_8
       have c_s_9' := zzc hb c_s_9
       show wpList _ _ _ _ _ _
       simp only [Grow.dstOf, zz1, zz3, zz4, Act.put, zz5, zz6, zz7]
       go_wp2
       exact ⟨rfl, Below.refl _ _, rfl⟩
      case o3z | o5z | o9z | o11z | o13z | o17z | o19z | o21z =>
       intro w' hb v1 hv1
       obtain rfl : v1 = _ := hv1
       have c_p_0' := zzc hb c_p_0
       have c_s_10' := zzc hb c_s_10
       have c_s_11' := zzc hb c_s_11
       have c_s_12' := zzc hb c_s_12
       have c_p_1' := zzc hb c_p_1
       have c_s_13' := zzc hb c_s_13
       have c_s_14' := zzc hb c_s_14
       have c_s_15' := zzc hb c_s_15
       show wpList _ _ _ _ _ _
       simp only [Grow.dstOf, zz1, zz2, zz3, zz4, Act.put, zz5, zz6, zz7]
       go_wp2
       exact ⟨rfl, Below.refl _ _, rfl⟩
      case o6z =>
       intro w' hb v1 hv1 v2 hv2
       obtain rfl : v1 = _ := hv1
       obtain rfl : v2 = _ := hv2
       show wpList _ _ _ _ _ _
       simp only [Grow.dstOf, zz1, zz2, zz3, zz4, Act.put, zz5, zz6, zz7]
       go_wp2_with fail
       refine (mtimes_is px px xx HET.out.1 (by omega) (by omega) (by omega) (by omega) w').mono ?_
       rintro e wz ⟨vz, rfl, hxz, hbz⟩
       go_wp2
       exact ⟨hxz, hbz, rfl⟩
      case o7z =>
       intro w' hb v1 hv1 v2 hv2
       obtain rfl : v1 = _ := hv1
       have hv2' : XR w' v2 xx := hv2
       clear hv2
       show wpList _ _ _ _ _ _
       simp only [Grow.dstOf, zz1, zz2, zz3, zz4, Act.put, zz5, zz6, zz7]
       go_wp2_with fail
       refine (xplus_sm p.xx xx q.xx HEQ.out.2.2.1 _ _ w' (HX.out.xx.ext hb) hv2' HP1.out.xx HSM.out.2.2.1).mono ?_
       rintro e wz ⟨vz, rfl, hxz, hbz⟩
       go_wp2
       exact ⟨hxz, hbz, rfl⟩
      case o14z =>
       intro w' hb v1 hv1 v2 hv2
       obtain rfl : v1 = _ := hv1
       obtain rfl : v2 = _ := hv2
       show wpList _ _ _ _ _ _
       simp only [Grow.dstOf, zz1, zz2, zz3, zz4, Act.put, zz5, zz6, zz7]
       go_wp2_with fail
       refine (mtimes_is py py yy HET.out.2.1 (by omega) (by omega) (by omega) (by omega) w').mono ?_
       rintro e wz ⟨vz, rfl, hxz, hbz⟩
       go_wp2
       exact ⟨hxz, hbz, rfl⟩
      case o15z =>
       intro w' hb v1 hv1 v2 hv2
       obtain rfl : v1 = _ := hv1
       have hv2' : XR w' v2 yy := hv2
       clear hv2
       show wpList _ _ _ _ _ _
       simp only [Grow.dstOf, zz1, zz2, zz3, zz4, Act.put, zz5, zz6, zz7]
       go_wp2_with fail
       refine (xplus_sm p.yy yy q.yy HEQ.out.2.2.2.1 _ _ w' (HX.out.yy.ext hb) hv2' HP1.out.yy HSM.out.2.2.2.1).mono ?_
       rintro e wz ⟨vz, rfl, hxz, hbz⟩
       go_wp2
       exact ⟨hxz, hbz, rfl⟩
      case o22z =>
       intro w' hb v1 hv1 v2 hv2
       obtain rfl : v1 = _ := hv1
       obtain rfl : v2 = _ := hv2
       show wpList _ _ _ _ _ _
       simp only [Grow.dstOf, zz1, zz2, zz3, zz4, Act.put, zz5, zz6, zz7]
       go_wp2_with fail
       refine (mtimes_is px py xy HET.out.2.2.1 (by omega) (by omega) (by omega) (by omega) w').mono ?_
       rintro e wz ⟨vz, rfl, hxz, hbz⟩
       go_wp2
       exact ⟨hxz, hbz, rfl⟩
      case o23z =>
       intro w' hb v1 hv1 v2 hv2
       obtain rfl : v1 = _ := hv1
       have hv2' : XR w' v2 xy := hv2
       clear hv2
       show wpList _ _ _ _ _ _
       simp only [Grow.dstOf, zz1, zz2, zz3, zz4, Act.put, zz5, zz6, zz7]
       go_wp2_with fail
       refine (xplus_sm p.xy xy q.xy HEQ.out.2.2.2.2 _ _ w' (HX.out.xy.ext hb) hv2' HP1.out.xy HSM.out.2.2.2.2).mono ?_
       rintro e wz ⟨vz, rfl, hxz, hbz⟩
       go_wp2
       exact ⟨hxz, hbz, rfl⟩
      intro w8' hbz u0 hu0 u1 hu1 u2 hu2 u3 hu3 u4 hu4 u5 hu5 u6 hu6 u7 hu7 u8 hu8 u9 hu9 u10 hu10 u11 hu11 u12 hu12 u13 hu13 u14 hu14 u15 hu15 u16 hu16 u17 hu17 u18 hu18 u19 hu19 u20 hu20 u21 hu21 u22 hu22 u23 hu23 u24 hu24
      obtain rfl : u24 = _ := hu24
      clear hu0 hu1 hu2 hu3 hu4 hu5 hu6 hu8 hu9 hu10 hu11 hu12 hu13 hu14 hu16 hu17 hu18 hu19 hu20 hu21 hu22
      replace HR_o := Lib.hid (HR_o.out.ext hbz)
      replace HR_s := Lib.hid (HR_s.out.ext hbz)
      replace HR_p := Lib.hid (HR_p.out.ext hbz)
      replace HX := Lib.hid (HX.out.ext hbz)
      replace HX1 := Lib.hid (HX1.out.ext hbz)
      replace HX2 := Lib.hid (HX2.out.ext hbz)
      replace HW := Lib.hid (ext_trans HW.out hbz)
      clear c_s_7 c_s_8 c_s_9 c_s_10 c_s_11 c_s_12 c_s_13 c_s_14 c_s_15 c_p_0 c_p_1
      clear hbz
      have h3 : XR w8' u7 q.xx := hu7
      clear hu7
      obtain ⟨t3, rfl, hx3⟩ := h3.y3
      clear h3
      have HX3 : Hid (XR w8' (y3V t3) q.xx) := Lib.hid (hx3)
      clear hx3
      have h4 : XR w8' u15 q.yy := hu15
      clear hu15
      obtain ⟨t4, rfl, hx4⟩ := h4.y3
      clear h4
      have HX4 : Hid (XR w8' (y3V t4) q.yy) := Lib.hid (hx4)
      clear hx4
      have h5 : XR w8' u23 q.xy := hu23
      clear hu23
      obtain ⟨t5, rfl, hx5⟩ := h5.y3
      clear h5
      have HX5 : Hid (XR w8' (y3V t5) q.xy) := Lib.hid (hx5)
      clear hx5
      show wpList _ _ _ _ _ _
      simp only [Act.put, zz5, zz6, zz7]
      clear HR_p
      clear HX
      have c_s_7 : w8'.cell? ⟨b_s, 7, none⟩ = some (.bool t.xx.b) := (HR_s.out.cell 7).trans rfl
      have c_s_8 : w8'.cell? ⟨b_s, 8, none⟩ = some (.slice t.xx.a1 t.xx.n1 t.xx.c1) := (HR_s.out.cell 8).trans rfl
      have c_s_9 : w8'.cell? ⟨b_s, 9, none⟩ = some (.slice t.xx.a2 t.xx.n2 t.xx.c2) := (HR_s.out.cell 9).trans rfl
      have c_s_10 : w8'.cell? ⟨b_s, 10, none⟩ = some (.bool t.yy.b) := (HR_s.out.cell 10).trans rfl
      have c_s_11 : w8'.cell? ⟨b_s, 11, none⟩ = some (.slice t.yy.a1 t.yy.n1 t.yy.c1) := (HR_s.out.cell 11).trans rfl
      have c_s_12 : w8'.cell? ⟨b_s, 12, none⟩ = some (.slice t.yy.a2 t.yy.n2 t.yy.c2) := (HR_s.out.cell 12).trans rfl
      have c_s_13 : w8'.cell? ⟨b_s, 13, none⟩ = some (.bool t.xy.b) := (HR_s.out.cell 13).trans rfl
      have c_s_14 : w8'.cell? ⟨b_s, 14, none⟩ = some (.slice t.xy.a1 t.xy.n1 t.xy.c1) := (HR_s.out.cell 14).trans rfl
      have c_s_15 : w8'.cell? ⟨b_s, 15, none⟩ = some (.slice t.xy.a2 t.xy.n2 t.xy.c2) := (HR_s.out.cell 15).trans rfl
      have f_s_7 := HR_s.out.fre 7
      have f_s_8 := HR_s.out.fre 8
      have f_s_9 := HR_s.out.fre 9
      have f_s_10 := HR_s.out.fre 10
      have f_s_11 := HR_s.out.fre 11
      have f_s_12 := HR_s.out.fre 12
      have f_s_13 := HR_s.out.fre 13
      have f_s_14 := HR_s.out.fre 14
      have f_s_15 := HR_s.out.fre 15
      go_upto_region 16 with (fail)
      obtain ⟨w9', hX⟩ : ∃ Z9, Z9 = (((((((((w8'.setCell ⟨b_s, 7, none⟩ (.bool t3.b)).setCell ⟨b_s, 8, none⟩ (.slice t3.a1 t3.n1 t3.c1)).setCell ⟨b_s, 9, none⟩ (.slice t3.a2 t3.n2 t3.c2)).setCell ⟨b_s, 10, none⟩ (.bool t4.b)).setCell ⟨b_s, 11, none⟩ (.slice t4.a1 t4.n1 t4.c1)).setCell ⟨b_s, 12, none⟩ (.slice t4.a2 t4.n2 t4.c2)).setCell ⟨b_s, 13, none⟩ (.bool t5.b)).setCell ⟨b_s, 14, none⟩ (.slice t5.a1 t5.n1 t5.c1)).setCell ⟨b_s, 15, none⟩ (.slice t5.a2 t5.n2 t5.c2)) := ⟨_, rfl⟩
      rw [← hX]
      have n_s : Hid (RH w9' b_s (smA ((l.length : Int)) ⟨t1, t2, t3, t4, t5⟩) 110) := by rw [hX, ← sm_set9 (l.length : Int) t1 t2 t.xx t.yy t.xy t3 t4 t5]; exact Lib.hid ((((((((((HR_s.out).set 7 (.bool t3.b)).set 8 (.slice t3.a1 t3.n1 t3.c1)).set 9 (.slice t3.a2 t3.n2 t3.c2)).set 10 (.bool t4.b)).set 11 (.slice t4.a1 t4.n1 t4.c1)).set 12 (.slice t4.a2 t4.n2 t4.c2)).set 13 (.bool t5.b)).set 14 (.slice t5.a1 t5.n1 t5.c1)).set 15 (.slice t5.a2 t5.n2 t5.c2))
      have n_o : Hid (RH w9' w.heap.size (mrA (0) r5z) 47) := by rw [hX]; exact Lib.hid (zzo (zzo (zzo (zzo (zzo (zzo (zzo (zzo (zzo (HR_o.out) (by omega)) (by omega)) (by omega)) (by omega)) (by omega)) (by omega)) (by omega)) (by omega)) (by omega))
      have HK_ : ∀ p : Addr, p.block ≠ b_s → w9'.cell? p = w8'.cell? p := fun p hp => by rw [hX]; exact (cs_other hp).trans ((cs_other hp).trans ((cs_other hp).trans ((cs_other hp).trans ((cs_other hp).trans ((cs_other hp).trans ((cs_other hp).trans ((cs_other hp).trans (cs_other hp))))))))
      have n_HX1 : Hid (XR w9' (y3V t1) q.x) := Lib.hid (HX1.out.far HR_s.out.box (sm_nw _ _) HK_)
      have n_HX2 : Hid (XR w9' (y3V t2) q.y) := Lib.hid (HX2.out.far HR_s.out.box (sm_nw _ _) HK_)
      have n_HX3 : Hid (XR w9' (y3V t3) q.xx) := Lib.hid (HX3.out.far HR_s.out.box (sm_nw _ _) HK_)
      have n_HX4 : Hid (XR w9' (y3V t4) q.yy) := Lib.hid (HX4.out.far HR_s.out.box (sm_nw _ _) HK_)
      have n_HX5 : Hid (XR w9' (y3V t5) q.xy) := Lib.hid (HX5.out.far HR_s.out.box (sm_nw _ _) HK_)
      have nW : Hid (Below w.heap.size w w9') := by rw [hX]; exact Lib.hid (zzw (zzw (zzw (zzw (zzw (zzw (zzw (zzw (zzw (HW.out) (by omega)) (by omega)) (by omega)) (by omega)) (by omega)) (by omega)) (by omega)) (by omega)) (by omega))
      clear c_s_7 c_s_8 c_s_9 c_s_10 c_s_11 c_s_12 c_s_13 c_s_14 c_s_15 f_s_7 f_s_8 f_s_9 f_s_10 f_s_11 f_s_12 f_s_13 f_s_14 f_s_15
      clear hX HK_ HW HR_o HR_s HX1 HX2 HX3 HX4 HX5
      have HR_o := n_o; clear n_o
      have HR_s := n_s; clear n_s
      have HX1 := n_HX1; clear n_HX1
      have HX2 := n_HX2; clear n_HX2
      have HX3 := n_HX3; clear n_HX3
      have HX4 := n_HX4; clear n_HX4
      have HX5 := n_HX5; clear n_HX5
      have HW := nW; clear nW
      have HXN : Hid (SX w9' ⟨t1, t2, t3, t4, t5⟩ (m5q m')) := Lib.hid (by rw [HQ.out]; exact ⟨HX1.out, HX2.out, HX3.out, HX4.out, HX5.out⟩)
      go_wp2
      go_roundw
      case rel => exact ⟨k + 1, m', ⟨t1, t2, t3, t4, t5⟩, by omega, by go_num, HST, HM2, HR_o.out, HR_s.out, HXN.out, HW.out⟩
      case measure => simp [intOf]; omega
     ·have hkl : k = l.length := by omega
      have HME : Hid (m = m5L m5z l) := Lib.hid (by rw [← HML.out, List.drop_of_length_le (show l.length ≤ k by omega)]; rfl)
      have HLN := Lib.hid (HMO.out.ln (by omega))
      have HV : Hid (sumV5 l = moC (l.length : Int) m ∧ sumF l = 0) := Lib.hid ⟨by rw [HME.out]; exact if_pos HF0.out, HF0.out⟩
      have HWR := Lib.hid (wr_plain (n := (l.length : Int)) HLN.out.lg)
      go_wp2_with (first | (refine wpList_load_row rfl _ _ rfl b_s rfl _ (smA ((l.length : Int)) t) _ _ HR_s.out Tryz.underlying110 rfl (sm_info _ _) ?_))
      refine (moments_at (l.length : Int) t (m5q m) Y HX.out HLN.out.qf HLN.out.qs).mono ?_
      rintro e w5' ⟨rfl, hbz⟩
      rw [HWR.out.1, HWR.out.2]
      replace HR_o := Lib.hid (HR_o.out.ext hbz)
      replace HR_s := Lib.hid (HR_s.out.ext hbz)
      replace HX := Lib.hid (HX.out.ext hbz)
      replace HW := Lib.hid (ext_trans HW.out hbz)
      clear hbz
      have hsz : (mrA ((l.length : Int)) (m5q m).r).size = 11 := rfl
      have hsc := store_cells (P := Tryz.prog) (ty := 47) (A := (mrA ((l.length : Int)) (m5q m).r)) HR_o.out (mr_info _ _) rfl (mr_all _ _)
      go_wp2
      clear hsc hsz
      obtain ⟨w6', hX⟩ : ∃ Z9, Z9 = w5'.setRow w.heap.size (mrA ((l.length : Int)) (m5q m).r) := ⟨_, rfl⟩
      rw [← hX]
      have n_o : Hid (RH w6' w.heap.size (mrA ((l.length : Int)) (m5q m).r) 47) := by rw [hX]; exact Lib.hid (HR_o.out.row _)
      have n_s : Hid (RH w6' b_s (smA ((l.length : Int)) t) 110) := by rw [hX]; exact Lib.hid (HR_s.out.row_other (show b_s ≠ w.heap.size by omega) _)
      have HK_ : ∀ p : Addr, p.block ≠ w.heap.size → w6'.cell? p = w5'.cell? p := fun p hp => by rw [hX]; exact cell_setRow_other _ _ _ p hp
      have n_HX : Hid (SX w6' t (m5q m)) := Lib.hid (HX.out.far HR_o.out.box (mr_nw _ _) HK_)
      have nW : Hid (Below w.heap.size w w6') := by rw [hX]; exact Lib.hid (below_setRow HW.out (show w.heap.size ≤ w.heap.size by omega) _)
      clear hX HK_ HW HR_o HR_s HX
      have HR_o := n_o; clear n_o
      have HR_s := n_s; clear n_s
      have HX := n_HX; clear n_HX
      have HW := nW; clear nW
      refine bodyPost_ret (v := .tuple #[.agg (mrA ((l.length : Int)) (m5q m).r), .int .i64 0]) ?_ rfl ⟨by rw [HV.out.1, HV.out.2]; rfl, HW.out⟩
      have hld := run_loadVar_row (P := Tryz.prog) _ _ _ 47 _ _ _ HR_o.out Tryz.underlying47 rfl (mr_info _ _)
      rw [results_cell_tmp rfl]
      simp [asAddr, Result.andThen, hld]
end Nm
end Go.Proofs.YtilolnjbpokdnaaGreatDoor
