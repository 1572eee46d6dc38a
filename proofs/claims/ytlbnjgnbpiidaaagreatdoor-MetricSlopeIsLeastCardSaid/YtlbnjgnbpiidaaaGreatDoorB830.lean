/- readSum, possible, read of package metric. Printed by gen_mom.py. -/
import Derived.Test.YtlbnjgnbpiidaaaGreatDoorB829
import Derived.Test.YtlbnjgnbpiidaaaGreatDoorB827
namespace Go.Proofs.YtlbnjgnbpiidaaaGreatDoor
open Go.RowKit
namespace Nm
open _root_.Go.Proofs.YtlbnjgnbpiidaaaGreatDoor.Nt (RH RH.cell RH.box RH.row RH.lt RH.new RH.ext RH.fre RH.set RH.other RH.row_other store_cells)
def RsIf (w : World) (f : Int) (t : Y3) (q : Rat) : Prop := f = 0 → XR w (y3V t) q
theorem RsIf.ext {w w' : World} {f : Int} {t : Y3} {q : Rat} (h : RsIf w f t q) (hb : Below w.heap.size w w') : RsIf w' f t q := fun h0 => (h h0).ext hb
theorem RsIf.far {w w' : World} {f : Int} {t : Y3} {q : Rat} {b : Nat} {A : Array Value} (h : RsIf w f t q) (hA : Box w b A) (hn : NoW A) (hk : ∀ p : Addr, p.block ≠ b → w'.cell? p = w.cell? p) : RsIf w' f t q := fun h0 => (h h0).far hA hn hk
theorem cmpQ_le {x y : Rat} : cmpQ x y ≤ 0 ↔ x ≤ y := by
 rw [← Rat.not_lt, Rat.lt_iff]
 unfold cmpQ cmpZ
 generalize x.num * (y.den : Int) = a
 generalize y.num * (x.den : Int) = b
 by_cases h1 : a < b
 ·rw [if_pos h1]; omega
 ·rw [if_neg h1]
  by_cases h2 : b < a
  ·rw [if_pos h2]; omega
  ·rw [if_neg h2]; omega
def RsPost (w : World) (n d : ByteArray) (e : Ending) (w' : World) : Prop := ∃ t : Y3, e = .returned (.tuple #[.agg #[.bool t.b, .slice t.a1 t.n1 t.c1, .slice t.a2 t.n2 t.c2], .int .i64 (smF n d)]) ∧ RsIf w' (smF n d) t (rQ n d) ∧ Below w.heap.size w w'
set_option maxRecDepth 100000 in
set_option maxHeartbeats 16000000 in
theorem readSum_at (n d : ByteArray) (hn : n.size ≤ maxLen) (hd : d.size ≤ maxLen) (w : World) : Calls Tryz.prog 76 #[.agg #[.string n, .string d]] w (RsPost w n d) := by
 have HN := Lib.hid (And.intro hn hd)
 clear hn hd
 go_enter Tryz.func76, Tryz.ntmps76
 go_upto_region 1 with (fail)
 refine wp_rows2 fun w1' hbz hR0 hR1 => ?_
 have HR_r : Hid (RH w1' w.heap.size #[.string n, .string d] 24) := Lib.hid hR0
 have HR_o : Hid (RH w1' (w.heap.size + 1) #[.bool false, .slice none 0 0, .slice none 0 0] 52) := Lib.hid hR1
 have HW := Lib.hid hbz
 clear hbz hR0 hR1
 obtain ⟨c_r_0, c_r_1⟩ := zs2 HR_r.out
 go_wp2_with fail
 refine (checkRatio_at n d HN.out.1 HN.out.2 w1').mono ?_
 rintro e w2' ⟨rfl, hbz⟩
 replace HR_r := Lib.hid (HR_r.out.ext hbz)
 replace HR_o := Lib.hid (HR_o.out.ext hbz)
 replace HW := Lib.hid (ext_trans HW.out hbz)
 clear c_r_0 c_r_1
 clear hbz
 by_cases hz : rF n d = 0
 ·have hne : (rF n d != 0) = false := by simp [hz]
  have HZ := Lib.hid hz
  have HP0 : Hid (smF n d = if d ≠ ⟨#[49]⟩ then 3 else if 100 < (cutS n).size then 2 else 0) := Lib.hid (by unfold smF; rw [if_neg (fun h => h hz)])
  clear hz
  obtain ⟨c_r_0, c_r_1⟩ := zs2 HR_r.out
  by_cases hd1 : d = ⟨#[49]⟩
  ·have hq1 : (d.toList == [49]) = true := (tl_lit d 49).trans (decide_eq_true hd1)
   have HP1 : Hid (smF n d = if 100 < (cutS n).size then 2 else 0) := Lib.hid (by rw [HP0.out, if_neg (fun h => h hd1)])
   clear hd1
   have hcz := cutS_size n
   have hcy := HN.out.1
   unfold maxLen at hcy
   go_wp2_with fail
   refine (trimPrefix_at n HN.out.1 w2').mono ?_
   rintro e w3' ⟨rfl, hw9⟩
   have hbz : Below w2'.heap.size w2' w3' := by rw [← hw9]; exact Below.refl _ _
   clear hw9 hq1
   replace HR_r := Lib.hid (HR_r.out.ext hbz)
   replace HR_o := Lib.hid (HR_o.out.ext hbz)
   replace HW := Lib.hid (ext_trans HW.out hbz)
   clear c_r_0 c_r_1
   clear hbz
   by_cases hl : 100 < (cutS n).size
   ·have HP : Hid (smF n d = 2) := Lib.hid (by rw [HP1.out, if_pos hl])
    have HNE : Hid ((2 : Int) ≠ 0) := Lib.hid (by decide)
    have hl2 : (100 : Int) < ((cutS n).size : Int) := by omega
    obtain ⟨c_o_0, c_o_1, c_o_2⟩ := zs3 HR_o.out
    have f_o_0 := HR_o.out.fre 0
    have f_o_1 := HR_o.out.fre 1
    have f_o_2 := HR_o.out.fre 2
    go_wp2
    obtain ⟨w4', hX⟩ : ∃ Z9, Z9 = (((w3'.setCell ⟨(w.heap.size + 1), 0, none⟩ (.bool false)).setCell ⟨(w.heap.size + 1), 1, none⟩ (.slice none 0 0)).setCell ⟨(w.heap.size + 1), 2, none⟩ (.slice none 0 0)) := ⟨_, rfl⟩
    rw [← hX]
    have n_o : Hid (RH w4' (w.heap.size + 1) #[.bool false, .slice none 0 0, .slice none 0 0] 52) := by rw [hX]; exact Lib.hid ((((HR_o.out).set 0 (.bool false)).set 1 (.slice none 0 0)).set 2 (.slice none 0 0))
    have n_r : Hid (RH w4' w.heap.size #[.string n, .string d] 24) := by rw [hX]; exact Lib.hid (zzo (zzo (zzo (HR_r.out) (by omega)) (by omega)) (by omega))
    have HK_ : ∀ p : Addr, p.block ≠ (w.heap.size + 1) → w4'.cell? p = w3'.cell? p := fun p hp => by rw [hX]; exact (cs_other hp).trans ((cs_other hp).trans (cs_other hp))
    have nW : Hid (Below w.heap.size w w4') := by rw [hX]; exact Lib.hid (zzw (zzw (zzw (HW.out) (by omega)) (by omega)) (by omega))
    clear c_o_0 c_o_1 c_o_2 f_o_0 f_o_1 f_o_2
    clear hX HK_ HW HR_r HR_o 
    have HR_r := n_r; clear n_r
    have HR_o := n_o; clear n_o
    have HW := nW; clear nW
    refine bodyPost_ret (v := .tuple #[.agg #[.bool false, .slice none 0 0, .slice none 0 0], .int .i64 2]) ?_ rfl ⟨y3z, by rw [HP.out]; rfl, (fun h => absurd (HP.out.symm.trans h) HNE.out), HW.out⟩
    have hld := run_loadVar_row (P := Tryz.prog) _ _ _ 52 _ _ _ HR_o.out Tryz.underlying52 rfl (by kernel_rfl : (Tryz.prog.info? 52).map (·.size) = some 3)
    rw [results_cell_tmp rfl]
    simp [asAddr, Result.andThen, hld]
   ·have HP : Hid (smF n d = 0) := Lib.hid (by rw [HP1.out, if_neg hl])
    have hl2 : ¬ (100 : Int) < ((cutS n).size : Int) := by omega
    obtain ⟨c_r_0, c_r_1⟩ := zs2 HR_r.out
    go_wp2_with fail
    refine (xratOfP_at n d HN.out.1 HN.out.2 HZ.out w3').mono ?_
    rintro e w4' ⟨v, rfl, hv1, hbz⟩
    obtain ⟨t1, rfl, hx1⟩ := hv1.y3
    clear hv1 hl2 hl hcz hcy
    replace HR_r := Lib.hid (HR_r.out.ext hbz)
    replace HR_o := Lib.hid (HR_o.out.ext hbz)
    replace HW := Lib.hid (ext_trans HW.out hbz)
    clear c_r_0 c_r_1
    clear hbz
    have HX1 : Hid (XR w4' (y3V t1) (rQ n d)) := Lib.hid hx1
    clear hx1
    obtain ⟨c_o_0, c_o_1, c_o_2⟩ := zs3 HR_o.out
    have f_o_0 := HR_o.out.fre 0
    have f_o_1 := HR_o.out.fre 1
    have f_o_2 := HR_o.out.fre 2
    go_wp2
    obtain ⟨w5', hX⟩ : ∃ Z9, Z9 = (((w4'.setCell ⟨(w.heap.size + 1), 0, none⟩ (.bool t1.b)).setCell ⟨(w.heap.size + 1), 1, none⟩ (.slice t1.a1 t1.n1 t1.c1)).setCell ⟨(w.heap.size + 1), 2, none⟩ (.slice t1.a2 t1.n2 t1.c2)) := ⟨_, rfl⟩
    rw [← hX]
    have n_o : Hid (RH w5' (w.heap.size + 1) #[.bool t1.b, .slice t1.a1 t1.n1 t1.c1, .slice t1.a2 t1.n2 t1.c2] 52) := by rw [hX]; exact Lib.hid ((((HR_o.out).set 0 (.bool t1.b)).set 1 (.slice t1.a1 t1.n1 t1.c1)).set 2 (.slice t1.a2 t1.n2 t1.c2))
    have n_r : Hid (RH w5' w.heap.size #[.string n, .string d] 24) := by rw [hX]; exact Lib.hid (zzo (zzo (zzo (HR_r.out) (by omega)) (by omega)) (by omega))
    have HK_ : ∀ p : Addr, p.block ≠ (w.heap.size + 1) → w5'.cell? p = w4'.cell? p := fun p hp => by rw [hX]; exact (cs_other hp).trans ((cs_other hp).trans (cs_other hp))
    have n_HX1 : Hid (XR w5' (y3V t1) (rQ n d)) := Lib.hid (HX1.out.far HR_o.out.box (noW_all (by simp [isWord])) HK_)
    have nW : Hid (Below w.heap.size w w5') := by rw [hX]; exact Lib.hid (zzw (zzw (zzw (HW.out) (by omega)) (by omega)) (by omega))
    clear c_o_0 c_o_1 c_o_2 f_o_0 f_o_1 f_o_2
    clear hX HK_ HW HR_r HR_o HX1
    have HR_r := n_r; clear n_r
    have HR_o := n_o; clear n_o
    have HX1 := n_HX1; clear n_HX1
    have HW := nW; clear nW
    refine bodyPost_ret (v := .tuple #[.agg #[.bool t1.b, .slice t1.a1 t1.n1 t1.c1, .slice t1.a2 t1.n2 t1.c2], .int .i64 0]) ?_ rfl ⟨t1, by rw [HP.out], (fun _ => HX1.out), HW.out⟩
    have hld := run_loadVar_row (P := Tryz.prog) _ _ _ 52 _ _ _ HR_o.out Tryz.underlying52 rfl (by kernel_rfl : (Tryz.prog.info? 52).map (·.size) = some 3)
    rw [results_cell_tmp rfl]
    simp [asAddr, Result.andThen, hld]
  ·have hq1 : (d.toList == [49]) = false := (tl_lit d 49).trans (decide_eq_false hd1)
   have HP : Hid (smF n d = 3) := Lib.hid (by rw [HP0.out, if_pos hd1])
   have HNE : Hid ((3 : Int) ≠ 0) := Lib.hid (by decide)
   clear hd1
   obtain ⟨c_o_0, c_o_1, c_o_2⟩ := zs3 HR_o.out
   have f_o_0 := HR_o.out.fre 0
   have f_o_1 := HR_o.out.fre 1
   have f_o_2 := HR_o.out.fre 2
   go_wp2
   obtain ⟨w3', hX⟩ : ∃ Z9, Z9 = (((w2'.setCell ⟨(w.heap.size + 1), 0, none⟩ (.bool false)).setCell ⟨(w.heap.size + 1), 1, none⟩ (.slice none 0 0)).setCell ⟨(w.heap.size + 1), 2, none⟩ (.slice none 0 0)) := ⟨_, rfl⟩
   rw [← hX]
   have n_o : Hid (RH w3' (w.heap.size + 1) #[.bool false, .slice none 0 0, .slice none 0 0] 52) := by rw [hX]; exact Lib.hid ((((HR_o.out).set 0 (.bool false)).set 1 (.slice none 0 0)).set 2 (.slice none 0 0))
   have n_r : Hid (RH w3' w.heap.size #[.string n, .string d] 24) := by rw [hX]; exact Lib.hid (zzo (zzo (zzo (HR_r.out) (by omega)) (by omega)) (by omega))
   have HK_ : ∀ p : Addr, p.block ≠ (w.heap.size + 1) → w3'.cell? p = w2'.cell? p := fun p hp => by rw [hX]; exact (cs_other hp).trans ((cs_other hp).trans (cs_other hp))
   have nW : Hid (Below w.heap.size w w3') := by rw [hX]; exact Lib.hid (zzw (zzw (zzw (HW.out) (by omega)) (by omega)) (by omega))
   clear c_r_0 c_r_1 c_o_0 c_o_1 c_o_2 f_o_0 f_o_1 f_o_2
   clear hX HK_ HW HR_r HR_o 
   have HR_r := n_r; clear n_r
   have HR_o := n_o; clear n_o
   have HW := nW; clear nW
   refine bodyPost_ret (v := .tuple #[.agg #[.bool false, .slice none 0 0, .slice none 0 0], .int .i64 3]) ?_ rfl ⟨y3z, by rw [HP.out]; rfl, (fun h => absurd (HP.out.symm.trans h) HNE.out), HW.out⟩
   have hld := run_loadVar_row (P := Tryz.prog) _ _ _ 52 _ _ _ HR_o.out Tryz.underlying52 rfl (by kernel_rfl : (Tryz.prog.info? 52).map (·.size) = some 3)
   rw [results_cell_tmp rfl]
   simp [asAddr, Result.andThen, hld]
 ·have HP : Hid (smF n d = rF n d) := Lib.hid (by unfold smF; rw [if_pos hz])
  have HNE : Hid (rF n d ≠ 0) := Lib.hid hz
  have hne : (rF n d != 0) = true := by simp [hz]
  clear hz
  obtain ⟨c_o_0, c_o_1, c_o_2⟩ := zs3 HR_o.out
  have f_o_0 := HR_o.out.fre 0
  have f_o_1 := HR_o.out.fre 1
  have f_o_2 := HR_o.out.fre 2
  go_wp2
  obtain ⟨w3', hX⟩ : ∃ Z9, Z9 = (((w2'.setCell ⟨(w.heap.size + 1), 0, none⟩ (.bool false)).setCell ⟨(w.heap.size + 1), 1, none⟩ (.slice none 0 0)).setCell ⟨(w.heap.size + 1), 2, none⟩ (.slice none 0 0)) := ⟨_, rfl⟩
  rw [← hX]
  have n_o : Hid (RH w3' (w.heap.size + 1) #[.bool false, .slice none 0 0, .slice none 0 0] 52) := by rw [hX]; exact Lib.hid ((((HR_o.out).set 0 (.bool false)).set 1 (.slice none 0 0)).set 2 (.slice none 0 0))
  have n_r : Hid (RH w3' w.heap.size #[.string n, .string d] 24) := by rw [hX]; exact Lib.hid (zzo (zzo (zzo (HR_r.out) (by omega)) (by omega)) (by omega))
  have HK_ : ∀ p : Addr, p.block ≠ (w.heap.size + 1) → w3'.cell? p = w2'.cell? p := fun p hp => by rw [hX]; exact (cs_other hp).trans ((cs_other hp).trans (cs_other hp))
  have nW : Hid (Below w.heap.size w w3') := by rw [hX]; exact Lib.hid (zzw (zzw (zzw (HW.out) (by omega)) (by omega)) (by omega))
  clear c_o_0 c_o_1 c_o_2 f_o_0 f_o_1 f_o_2
  clear hX HK_ HW HR_r HR_o 
  have HR_r := n_r; clear n_r
  have HR_o := n_o; clear n_o
  have HW := nW; clear nW
  refine bodyPost_ret (v := .tuple #[.agg #[.bool false, .slice none 0 0, .slice none 0 0], .int .i64 (rF n d)]) ?_ rfl ⟨y3z, by rw [HP.out]; rfl, (fun h => absurd (HP.out.symm.trans h) HNE.out), HW.out⟩
  have hld := run_loadVar_row (P := Tryz.prog) _ _ _ 52 _ _ _ HR_o.out Tryz.underlying52 rfl (by kernel_rfl : (Tryz.prog.info? 52).map (·.size) = some 3)
  rw [results_cell_tmp rfl]
  simp [asAddr, Result.andThen, hld]
end Nm
end Go.Proofs.YtlbnjgnbpiidaaaGreatDoor
