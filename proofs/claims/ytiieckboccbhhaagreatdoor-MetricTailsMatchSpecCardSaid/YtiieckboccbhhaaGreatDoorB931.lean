/- Tail of the reference. Printed by gen_frt.py. The walk of MetricTailsMatchSpec. Printed by gen_lawtails.py. -/
import Derived.Test.YtiieckboccbhhaaGreatDoorB911
import Derived.Test.YtiieckboccbhhaaGreatDoorB909
import Derived.Test.YtiieckboccbhhaaGreatDoorB910
import Derived.Test.YtiieckboccbhhaaGreatDoorB900
import Derived.Test.YtiieckboccbhhaaGreatDoorB901
import Derived.Test.YtiieckboccbhhaaGreatDoorB904
import Derived.Test.YtiieckboccbhhaaGreatDoorB912
import Derived.Test.YtiieckboccbhhaaGreatDoorB902
import Derived.Test.YtiieckboccbhhaaGreatDoorProg
import Derived.Test.YtiieckboccbhhaaGreatDoorB903
import Derived.Test.YtiieckboccbhhaaGreatDoorB905
import Derived.Test.YtiieckboccbhhaaGreatDoorB906
import Derived.Test.YtiieckboccbhhaaGreatDoorB907
import Derived.Test.YtiieckboccbhhaaGreatDoorB908
import Derived.Test.YtiieckboccbhhaaGreatDoorB913
import Derived.Test.YtiieckboccbhhaaGreatDoorB914
import Derived.Test.YtiieckboccbhhaaGreatDoorB915
import Derived.Test.YtiieckboccbhhaaGreatDoorB916
import Derived.Test.YtiieckboccbhhaaGreatDoorB917
import Derived.Test.YtiieckboccbhhaaGreatDoorB918
import Derived.Test.YtiieckboccbhhaaGreatDoorB919
import Derived.Test.YtiieckboccbhhaaGreatDoorB920
import Derived.Test.YtiieckboccbhhaaGreatDoorB921
import Derived.Test.YtiieckboccbhhaaGreatDoorShelf
import Derived.Test.YtiieckboccbhhaaGreatDoorB922
import Derived.Test.YtiieckboccbhhaaGreatDoorB923
import Derived.Test.YtiieckboccbhhaaGreatDoorB924
import Derived.Test.YtiieckboccbhhaaGreatDoorB925
import Derived.Test.YtiieckboccbhhaaGreatDoorB927
import Derived.Test.YtiieckboccbhhaaGreatDoorB928
import Derived.Test.YtiieckboccbhhaaGreatDoorB929
import Derived.Test.YtiieckboccbhhaaGreatDoorB930
import Derived.Test.YtiieckboccbhhaaGreatDoorB926
import Derived.Test.YtiieckboccbhhaaGreatDoorB932
import Derived.Test.YtiieckboccbhhaaGreatDoorB933
import Derived.Test.YtiieckboccbhhaaGreatDoorB934
import Derived.Test.YtiieckboccbhhaaGreatDoorB935
import Derived.Test.YtiieckboccbhhaaGreatDoorB936
import Derived.Test.YtiieckboccbhhaaGreatDoorB937
import Derived.Test.YtiieckboccbhhaaGreatDoorB938
namespace Go.Proofs.YtiieckboccbhhaaGreatDoor
open Go.RowKit
namespace Nt
open _root_.Go.Proofs.YtiieckboccbhhaaGreatDoor.Nm (outN outD outF AnsPost tailQ tlOk tlN tlD tlF tl_yes tl_no)
set_option maxRecDepth 100000 in
set_option maxHeartbeats 16000000 in
theorem refTail_at (n m k : Int) (w : World) (ht : Tab w) : Calls Tryz.prog 7 #[.int .i64 n, .int .i64 m, .int .i64 k] w (AnsPost w (tlN n m k) (tlD n m k) (tlF n m k)) := by
 go_enter Tryz.func7, Tryz.ntmps7
 have HT0 := Lib.hid ht
 clear ht
 go_upto_region 1 with (fail)
 refine wp_frs1 fun w1' hbz hR0 => ?_
 have HR_o : Hid (RH w1' w.heap.size #[.string ⟨#[]⟩, .string ⟨#[]⟩] 23) := Lib.hid hR0
 have HW := Lib.hid hbz
 clear hbz hR0
 obtain ⟨c_o_0, c_o_1⟩ := zs2 HR_o.out
 have f_o_0 := HR_o.out.fre 0
 have f_o_1 := HR_o.out.fre 1
 by_cases ha : n < 0
 ·have HP := Lib.hid (tl_no (n := n) (m := m) (k := k) (by unfold tlOk; omega))
  go_wp2
  obtain ⟨w2', hX⟩ : ∃ Z9, Z9 = ((w1'.setCell ⟨w.heap.size, 0, none⟩ (.string ⟨#[]⟩)).setCell ⟨w.heap.size, 1, none⟩ (.string ⟨#[]⟩)) := ⟨_, rfl⟩
  rw [← hX]
  have n_o : Hid (RH w2' w.heap.size #[.string ⟨#[]⟩, .string ⟨#[]⟩] 23) := by rw [hX]; exact Lib.hid (((HR_o.out).set 0 (.string ⟨#[]⟩)).set 1 (.string ⟨#[]⟩))
  have HK_ : ∀ p : Addr, p.block ≠ w.heap.size → w2'.cell? p = w1'.cell? p := fun p hp => by rw [hX]; exact (cs_other' hp).trans (cs_other' hp)
  have nW : Hid (Below w.heap.size w w2') := by rw [hX]; exact Lib.hid (zzw (zzw (HW.out) (by omega)) (by omega))
  clear c_o_0 c_o_1 f_o_0 f_o_1
  clear hX HK_ HW HR_o 
  have HR_o := n_o; clear n_o
  have HW := nW; clear nW
  refine bodyPost_ret (v := .tuple #[.agg #[.string ⟨#[]⟩, .string ⟨#[]⟩], .int .i64 1]) ?_ rfl ⟨by rw [HP.out.1, HP.out.2.1, HP.out.2.2], HW.out⟩
  have hld := run_loadVar_row (P := Tryz.prog) _ _ _ 23 _ _ _ HR_o.out Tryz.underlying23 rfl (by kernel_rfl : (Tryz.prog.info? 23).map (·.size) = some 2)
  rw [results_cell_tmp rfl]
  simp [asAddr, Result.andThen, hld]
 ·by_cases hb : 60 < n
  ·have HP := Lib.hid (tl_no (n := n) (m := m) (k := k) (by unfold tlOk; omega))
   go_wp2
   obtain ⟨w2', hX⟩ : ∃ Z9, Z9 = ((w1'.setCell ⟨w.heap.size, 0, none⟩ (.string ⟨#[]⟩)).setCell ⟨w.heap.size, 1, none⟩ (.string ⟨#[]⟩)) := ⟨_, rfl⟩
   rw [← hX]
   have n_o : Hid (RH w2' w.heap.size #[.string ⟨#[]⟩, .string ⟨#[]⟩] 23) := by rw [hX]; exact Lib.hid (((HR_o.out).set 0 (.string ⟨#[]⟩)).set 1 (.string ⟨#[]⟩))
   have HK_ : ∀ p : Addr, p.block ≠ w.heap.size → w2'.cell? p = w1'.cell? p := fun p hp => by rw [hX]; exact (cs_other' hp).trans (cs_other' hp)
   have nW : Hid (Below w.heap.size w w2') := by rw [hX]; exact Lib.hid (zzw (zzw (HW.out) (by omega)) (by omega))
   clear c_o_0 c_o_1 f_o_0 f_o_1
   clear hX HK_ HW HR_o 
   have HR_o := n_o; clear n_o
   have HW := nW; clear nW
   refine bodyPost_ret (v := .tuple #[.agg #[.string ⟨#[]⟩, .string ⟨#[]⟩], .int .i64 1]) ?_ rfl ⟨by rw [HP.out.1, HP.out.2.1, HP.out.2.2], HW.out⟩
   have hld := run_loadVar_row (P := Tryz.prog) _ _ _ 23 _ _ _ HR_o.out Tryz.underlying23 rfl (by kernel_rfl : (Tryz.prog.info? 23).map (·.size) = some 2)
   rw [results_cell_tmp rfl]
   simp [asAddr, Result.andThen, hld]
  ·by_cases hc : m < 0
   ·have HP := Lib.hid (tl_no (n := n) (m := m) (k := k) (by unfold tlOk; omega))
    go_wp2
    obtain ⟨w2', hX⟩ : ∃ Z9, Z9 = ((w1'.setCell ⟨w.heap.size, 0, none⟩ (.string ⟨#[]⟩)).setCell ⟨w.heap.size, 1, none⟩ (.string ⟨#[]⟩)) := ⟨_, rfl⟩
    rw [← hX]
    have n_o : Hid (RH w2' w.heap.size #[.string ⟨#[]⟩, .string ⟨#[]⟩] 23) := by rw [hX]; exact Lib.hid (((HR_o.out).set 0 (.string ⟨#[]⟩)).set 1 (.string ⟨#[]⟩))
    have HK_ : ∀ p : Addr, p.block ≠ w.heap.size → w2'.cell? p = w1'.cell? p := fun p hp => by rw [hX]; exact (cs_other' hp).trans (cs_other' hp)
    have nW : Hid (Below w.heap.size w w2') := by rw [hX]; exact Lib.hid (zzw (zzw (HW.out) (by omega)) (by omega))
    clear c_o_0 c_o_1 f_o_0 f_o_1
    clear hX HK_ HW HR_o 
    have HR_o := n_o; clear n_o
    have HW := nW; clear nW
    refine bodyPost_ret (v := .tuple #[.agg #[.string ⟨#[]⟩, .string ⟨#[]⟩], .int .i64 1]) ?_ rfl ⟨by rw [HP.out.1, HP.out.2.1, HP.out.2.2], HW.out⟩
    have hld := run_loadVar_row (P := Tryz.prog) _ _ _ 23 _ _ _ HR_o.out Tryz.underlying23 rfl (by kernel_rfl : (Tryz.prog.info? 23).map (·.size) = some 2)
    rw [results_cell_tmp rfl]
    simp [asAddr, Result.andThen, hld]
   ·by_cases hd : 1000 < m
    ·have HP := Lib.hid (tl_no (n := n) (m := m) (k := k) (by unfold tlOk; omega))
     go_wp2
     obtain ⟨w2', hX⟩ : ∃ Z9, Z9 = ((w1'.setCell ⟨w.heap.size, 0, none⟩ (.string ⟨#[]⟩)).setCell ⟨w.heap.size, 1, none⟩ (.string ⟨#[]⟩)) := ⟨_, rfl⟩
     rw [← hX]
     have n_o : Hid (RH w2' w.heap.size #[.string ⟨#[]⟩, .string ⟨#[]⟩] 23) := by rw [hX]; exact Lib.hid (((HR_o.out).set 0 (.string ⟨#[]⟩)).set 1 (.string ⟨#[]⟩))
     have HK_ : ∀ p : Addr, p.block ≠ w.heap.size → w2'.cell? p = w1'.cell? p := fun p hp => by rw [hX]; exact (cs_other' hp).trans (cs_other' hp)
     have nW : Hid (Below w.heap.size w w2') := by rw [hX]; exact Lib.hid (zzw (zzw (HW.out) (by omega)) (by omega))
     clear c_o_0 c_o_1 f_o_0 f_o_1
     clear hX HK_ HW HR_o 
     have HR_o := n_o; clear n_o
     have HW := nW; clear nW
     refine bodyPost_ret (v := .tuple #[.agg #[.string ⟨#[]⟩, .string ⟨#[]⟩], .int .i64 1]) ?_ rfl ⟨by rw [HP.out.1, HP.out.2.1, HP.out.2.2], HW.out⟩
     have hld := run_loadVar_row (P := Tryz.prog) _ _ _ 23 _ _ _ HR_o.out Tryz.underlying23 rfl (by kernel_rfl : (Tryz.prog.info? 23).map (·.size) = some 2)
     rw [results_cell_tmp rfl]
     simp [asAddr, Result.andThen, hld]
    ·by_cases he : k < 0
     ·have HP := Lib.hid (tl_no (n := n) (m := m) (k := k) (by unfold tlOk; omega))
      go_wp2
      obtain ⟨w2', hX⟩ : ∃ Z9, Z9 = ((w1'.setCell ⟨w.heap.size, 0, none⟩ (.string ⟨#[]⟩)).setCell ⟨w.heap.size, 1, none⟩ (.string ⟨#[]⟩)) := ⟨_, rfl⟩
      rw [← hX]
      have n_o : Hid (RH w2' w.heap.size #[.string ⟨#[]⟩, .string ⟨#[]⟩] 23) := by rw [hX]; exact Lib.hid (((HR_o.out).set 0 (.string ⟨#[]⟩)).set 1 (.string ⟨#[]⟩))
      have HK_ : ∀ p : Addr, p.block ≠ w.heap.size → w2'.cell? p = w1'.cell? p := fun p hp => by rw [hX]; exact (cs_other' hp).trans (cs_other' hp)
      have nW : Hid (Below w.heap.size w w2') := by rw [hX]; exact Lib.hid (zzw (zzw (HW.out) (by omega)) (by omega))
      clear c_o_0 c_o_1 f_o_0 f_o_1
      clear hX HK_ HW HR_o 
      have HR_o := n_o; clear n_o
      have HW := nW; clear nW
      refine bodyPost_ret (v := .tuple #[.agg #[.string ⟨#[]⟩, .string ⟨#[]⟩], .int .i64 1]) ?_ rfl ⟨by rw [HP.out.1, HP.out.2.1, HP.out.2.2], HW.out⟩
      have hld := run_loadVar_row (P := Tryz.prog) _ _ _ 23 _ _ _ HR_o.out Tryz.underlying23 rfl (by kernel_rfl : (Tryz.prog.info? 23).map (·.size) = some 2)
      rw [results_cell_tmp rfl]
      simp [asAddr, Result.andThen, hld]
     ·by_cases hf : n + 1 < k
      ·have hw1 : IntKind.i64.wrap (n + 1) = n + 1 := IntWalk.i64_in _ (by constructor <;> omega)
       have HP := Lib.hid (tl_no (n := n) (m := m) (k := k) (by unfold tlOk; omega))
       go_wp2
       obtain ⟨w2', hX⟩ : ∃ Z9, Z9 = ((w1'.setCell ⟨w.heap.size, 0, none⟩ (.string ⟨#[]⟩)).setCell ⟨w.heap.size, 1, none⟩ (.string ⟨#[]⟩)) := ⟨_, rfl⟩
       rw [← hX]
       have n_o : Hid (RH w2' w.heap.size #[.string ⟨#[]⟩, .string ⟨#[]⟩] 23) := by rw [hX]; exact Lib.hid (((HR_o.out).set 0 (.string ⟨#[]⟩)).set 1 (.string ⟨#[]⟩))
       have HK_ : ∀ p : Addr, p.block ≠ w.heap.size → w2'.cell? p = w1'.cell? p := fun p hp => by rw [hX]; exact (cs_other' hp).trans (cs_other' hp)
       have nW : Hid (Below w.heap.size w w2') := by rw [hX]; exact Lib.hid (zzw (zzw (HW.out) (by omega)) (by omega))
       clear c_o_0 c_o_1 f_o_0 f_o_1
       clear hX HK_ HW HR_o 
       have HR_o := n_o; clear n_o
       have HW := nW; clear nW
       refine bodyPost_ret (v := .tuple #[.agg #[.string ⟨#[]⟩, .string ⟨#[]⟩], .int .i64 1]) ?_ rfl ⟨by rw [HP.out.1, HP.out.2.1, HP.out.2.2], HW.out⟩
       have hld := run_loadVar_row (P := Tryz.prog) _ _ _ 23 _ _ _ HR_o.out Tryz.underlying23 rfl (by kernel_rfl : (Tryz.prog.info? 23).map (·.size) = some 2)
       rw [results_cell_tmp rfl]
       simp [asAddr, Result.andThen, hld]
      ·obtain ⟨n', hn'⟩ : ∃ z : Nat, n = (z : Int) := ⟨n.toNat, by omega⟩
       obtain ⟨m', hm'⟩ : ∃ z : Nat, m = (z : Int) := ⟨m.toNat, by omega⟩
       obtain ⟨k', hk'⟩ : ∃ z : Nat, k = (z : Int) := ⟨k.toNat, by omega⟩
       subst hn'
       subst hm'
       subst hk'
       have HOK := Lib.hid (tl_yes (n := n') (m := m') (k := k') (by unfold tlOk; omega))
       have hw1 : IntKind.i64.wrap ((n' : Int) + 1) = (n' : Int) + 1 := IntWalk.i64_in _ (by constructor <;> omega)
       go_wp2_with fail
       refine (tails_at n' m' (by omega) (by omega) w1').mono ?_
       rintro e w2' ⟨a9, c9, us, rfl, hs9, ht9, hbz⟩
       replace HR_o := Lib.hid (HR_o.out.ext hbz)
       replace HW := Lib.hid (ext_trans HW.out hbz)
       clear c_o_0 c_o_1 f_o_0 f_o_1
       clear hbz
       have HS : Hid (Sl w2' (.slice a9 us.length c9) us.length (us.flatMap f3L)) := Lib.hid hs9
       clear hs9
       have HTL : Hid (TLs w2' us n' m' (n' + 1)) := Lib.hid ht9
       clear ht9
       have hul : us.length = n' + 2 := by rw [HTL.out.len]
       have hku : k' < us.length := by omega
       obtain ⟨te, hte⟩ : ∃ t, us[k']? = some t := ⟨_, List.getElem?_eq_getElem (by omega)⟩
       obtain ⟨pbe, poe, hpe, hcse⟩ := (HS.out).elem (f := f3L) f3_len (by omega : 0 < 3) hte
       subst hpe
       have ee0 : w2'.cell? ⟨pbe, poe + k' * 3, none⟩ = some (.bool te.b) := hcse 0 _ rfl
       have ee1 : w2'.cell? ⟨pbe, poe + k' * 3 + 1, none⟩ = some (.slice te.a1 te.n1 te.c1) := hcse 1 _ rfl
       have ee2 : w2'.cell? ⟨pbe, poe + k' * 3 + 2, none⟩ = some (.slice te.a2 te.n2 te.c2) := hcse 2 _ rfl
       clear hcse
       obtain ⟨n1, d1, ⟨hd1, l1, l2, hq⟩, hx1⟩ := HTL.out.ok k' te hte
       have HQ := Lib.hid hq
       have hk1 : (k' : Int) < (us.length : Int) := by omega
       have hk0 : (0 : Int) ≤ (k' : Int) := Int.natCast_nonneg _
       have hk3 : (k' : Int).toNat = k' := by omega
       clear hq hte hul hku
       have HX1 : Hid (FX w2' te n1 d1) := Lib.hid (hx1)
       clear hx1
       go_wp2_with fail
       refine ((by have h := fratio_at te n1 d1 hd1 (by omega) (by omega) w2' HX1.out (HT0.out.ext HW.out); rw [HQ.out, ← HOK.out.1, ← HOK.out.2.1, ← HOK.out.2.2] at h; exact h : Calls _ _ _ w2' (AnsPost w2' (tlN n' m' k') (tlD n' m' k') (tlF n' m' k')))).mono ?_
       rintro e w3' ⟨rfl, hbz⟩
       replace HR_o := Lib.hid (HR_o.out.ext hbz)
       replace HX1 := Lib.hid (HX1.out.ext hbz)
       replace HW := Lib.hid (ext_trans HW.out hbz)
       clear ee0 ee1 ee2
       clear hbz
       clear HX1
       obtain ⟨sn, hsn⟩ : ∃ z, tlN n' m' k' = z := ⟨_, rfl⟩
       obtain ⟨sd, hsd⟩ : ∃ z, tlD n' m' k' = z := ⟨_, rfl⟩
       obtain ⟨sf, hsf⟩ : ∃ z, tlF n' m' k' = z := ⟨_, rfl⟩
       have HSS := Lib.hid (And.intro hsn (And.intro hsd hsf))
       rw [hsn, hsd, hsf]
       clear hsn hsd hsf
       obtain ⟨c_o_0, c_o_1⟩ := zs2 HR_o.out
       have f_o_0 := HR_o.out.fre 0
       have f_o_1 := HR_o.out.fre 1
       go_wp2
       obtain ⟨w4', hX⟩ : ∃ Z9, Z9 = ((w3'.setCell ⟨w.heap.size, 0, none⟩ (.string sn)).setCell ⟨w.heap.size, 1, none⟩ (.string sd)) := ⟨_, rfl⟩
       rw [← hX]
       have n_o : Hid (RH w4' w.heap.size #[.string sn, .string sd] 23) := by rw [hX]; exact Lib.hid (((HR_o.out).set 0 (.string sn)).set 1 (.string sd))
       have HK_ : ∀ p : Addr, p.block ≠ w.heap.size → w4'.cell? p = w3'.cell? p := fun p hp => by rw [hX]; exact (cs_other' hp).trans (cs_other' hp)
       have nW : Hid (Below w.heap.size w w4') := by rw [hX]; exact Lib.hid (zzw (zzw (HW.out) (by omega)) (by omega))
       clear c_o_0 c_o_1 f_o_0 f_o_1
       clear hX HK_ HW HR_o 
       have HR_o := n_o; clear n_o
       have HW := nW; clear nW
       refine bodyPost_ret (v := .tuple #[.agg #[.string sn, .string sd], .int .i64 sf]) ?_ rfl ⟨by rw [HSS.out.1, HSS.out.2.1, HSS.out.2.2], HW.out⟩
       have hld := run_loadVar_row (P := Tryz.prog) _ _ _ 23 _ _ _ HR_o.out Tryz.underlying23 rfl (by kernel_rfl : (Tryz.prog.info? 23).map (·.size) = some 2)
       rw [results_cell_tmp rfl]
       simp [asAddr, Result.andThen, hld]
end Nt
end Go.Proofs.YtiieckboccbhhaaGreatDoor
namespace Go.Proofs.YtiieckboccbhhaaGreatDoor
open Go.RowKit
namespace Nm
open _root_.Go.Proofs.YtiieckboccbhhaaGreatDoor.Nt (RH RH.cell RH.box RH.row RH.lt RH.new RH.ext RH.fre RH.set RH.other Tab Tab.ext wp_frs1 cs_other')
set_option maxRecDepth 100000 in
set_option maxHeartbeats 16000000 in
theorem lawTai_at (n m k : Int) (a b : ByteArray) (ha : a.size ≤ maxLen) (hb : b.size ≤ maxLen) (w : World) (ht : Tab w) : Calls Tryz.prog 3 #[.int .i64 n, .int .i64 m, .int .i64 k, .agg #[.string a, .string b]] w fun e w' => e = .returned (.bool true) ∧ Below w.heap.size w w' := by
 obtain ⟨t0, ht0⟩ : ∃ z, tlN n m k = z := ⟨_, rfl⟩
 obtain ⟨t1, ht1⟩ : ∃ z, tlD n m k = z := ⟨_, rfl⟩
 obtain ⟨t2, ht2⟩ : ∃ z, tlF n m k = z := ⟨_, rfl⟩
 have H_t := Lib.hid (And.intro ht0 (And.intro ht1 (ht2)))
 clear ht0 ht1 ht2
 obtain ⟨r0, hr0⟩ : ∃ z, rnLo n m a b = z := ⟨_, rfl⟩
 obtain ⟨r1, hr1⟩ : ∃ z, rnHi n m a b = z := ⟨_, rfl⟩
 obtain ⟨r2, hr2⟩ : ∃ z, rnF n m a b = z := ⟨_, rfl⟩
 have H_r := Lib.hid (And.intro hr0 (And.intro hr1 (hr2)))
 clear hr0 hr1 hr2
 go_enter Tryz.func3, Tryz.ntmps3
 have HT0 := Lib.hid ht
 clear ht
 go_upto_region 1 with (fail)
 refine wp_frs1 fun w1' hbz hR0 => ?_
 have HR_m : Hid (RH w1' w.heap.size #[.string a, .string b] 23) := Lib.hid hR0
 have HW := Lib.hid hbz
 clear hbz hR0
 go_wp2_with fail
 refine (metTail_at n m k w1').mono ?_
 rintro e w2' ⟨rfl, hbz⟩
 rw [H_t.out.1, H_t.out.2.1, H_t.out.2.2]
 replace HR_m := Lib.hid (HR_m.out.ext hbz)
 replace HW := Lib.hid (ext_trans HW.out hbz)
 clear hbz
 go_upto_region 2 with (fail)
 refine wp_frs1 fun w3' hbz hR0 => ?_
 have lt_m_x : w.heap.size < w2'.heap.size := HR_m.out.lt
 have le_x : w.heap.size ≤ w2'.heap.size := HW.out.size
 replace HR_m := Lib.hid (HR_m.out.ext hbz)
 replace HW := Lib.hid (ext_trans HW.out hbz)
 clear hbz
 have HR_x : Hid (RH w3' w2'.heap.size #[.string t0, .string t1] 23) := Lib.hid hR0
 clear hR0
 generalize w2'.heap.size = b_x at *
 go_wp2_with fail
 refine (Nt.refTail_at n m k w3' (HT0.out.ext HW.out)).mono ?_
 rintro e w4' ⟨rfl, hbz⟩
 rw [H_t.out.1, H_t.out.2.1, H_t.out.2.2]
 replace HR_m := Lib.hid (HR_m.out.ext hbz)
 replace HR_x := Lib.hid (HR_x.out.ext hbz)
 replace HW := Lib.hid (ext_trans HW.out hbz)
 clear hbz
 go_upto_region 3 with (fail)
 refine wp_frs1 fun w5' hbz hR0 => ?_
 have lt_m_y : w.heap.size < w4'.heap.size := HR_m.out.lt
 have lt_x_y : b_x < w4'.heap.size := HR_x.out.lt
 have le_y : w.heap.size ≤ w4'.heap.size := HW.out.size
 replace HR_m := Lib.hid (HR_m.out.ext hbz)
 replace HR_x := Lib.hid (HR_x.out.ext hbz)
 replace HW := Lib.hid (ext_trans HW.out hbz)
 clear hbz
 have HR_y : Hid (RH w5' w4'.heap.size #[.string t0, .string t1] 23) := Lib.hid hR0
 clear hR0
 generalize w4'.heap.size = b_y at *
 obtain ⟨c_x_0, c_x_1⟩ := zs2 HR_x.out
 obtain ⟨c_y_0, c_y_1⟩ := zs2 HR_y.out
 obtain ⟨c_m_0, c_m_1⟩ := zs2 HR_m.out
 go_wp2_with fail
 refine (metRanks_at n m a b ha hb w5').mono ?_
 rintro e w6' ⟨rfl, hbz⟩
 rw [H_r.out.1, H_r.out.2.1, H_r.out.2.2]
 replace HR_m := Lib.hid (HR_m.out.ext hbz)
 replace HR_x := Lib.hid (HR_x.out.ext hbz)
 replace HR_y := Lib.hid (HR_y.out.ext hbz)
 replace HW := Lib.hid (ext_trans HW.out hbz)
 clear c_x_0 c_x_1 c_y_0 c_y_1 c_m_0 c_m_1
 clear hbz
 obtain ⟨c_m_0, c_m_1⟩ := zs2 HR_m.out
 go_wp2_with fail
 refine (Nt.refRanks_at n m a b ha hb w6' (HT0.out.ext HW.out)).mono ?_
 rintro e w7' ⟨rfl, hbz⟩
 rw [H_r.out.1, H_r.out.2.1, H_r.out.2.2]
 replace HR_m := Lib.hid (HR_m.out.ext hbz)
 replace HR_x := Lib.hid (HR_x.out.ext hbz)
 replace HR_y := Lib.hid (HR_y.out.ext hbz)
 replace HW := Lib.hid (ext_trans HW.out hbz)
 clear c_m_0 c_m_1
 clear hbz
 go_wp2
 go_ret
 exact ⟨by simp, HW.out⟩
end Nm
end Go.Proofs.YtiieckboccbhhaaGreatDoor
