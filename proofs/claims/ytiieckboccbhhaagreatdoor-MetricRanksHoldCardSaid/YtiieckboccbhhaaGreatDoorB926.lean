/- Tail of package metric. Printed by gen_tailb.py. -/
import Derived.Test.YtiieckboccbhhaaGreatDoorB900
import Derived.Test.YtiieckboccbhhaaGreatDoorProg
import Derived.Test.YtiieckboccbhhaaGreatDoorB901
import Derived.Test.YtiieckboccbhhaaGreatDoorB902
import Derived.Test.YtiieckboccbhhaaGreatDoorB903
import Derived.Test.YtiieckboccbhhaaGreatDoorB904
import Derived.Test.YtiieckboccbhhaaGreatDoorB905
import Derived.Test.YtiieckboccbhhaaGreatDoorB906
import Derived.Test.YtiieckboccbhhaaGreatDoorB907
import Derived.Test.YtiieckboccbhhaaGreatDoorB908
import Derived.Test.YtiieckboccbhhaaGreatDoorB909
import Derived.Test.YtiieckboccbhhaaGreatDoorB912
import Derived.Test.YtiieckboccbhhaaGreatDoorB913
import Derived.Test.YtiieckboccbhhaaGreatDoorB914
import Derived.Test.YtiieckboccbhhaaGreatDoorB915
import Derived.Test.YtiieckboccbhhaaGreatDoorB916
import Derived.Test.YtiieckboccbhhaaGreatDoorB917
import Derived.Test.YtiieckboccbhhaaGreatDoorB918
import Derived.Test.YtiieckboccbhhaaGreatDoorB919
import Derived.Test.YtiieckboccbhhaaGreatDoorB920
import Derived.Test.YtiieckboccbhhaaGreatDoorB921
import Derived.Test.YtiieckboccbhhaaGreatDoorShelf
import Derived.Test.YtiieckboccbhhaaGreatDoorB922
import Derived.Test.YtiieckboccbhhaaGreatDoorB923
import Derived.Test.YtiieckboccbhhaaGreatDoorB924
import Derived.Test.YtiieckboccbhhaaGreatDoorB925
namespace Go.Proofs.YtiieckboccbhhaaGreatDoor
open Go.RowKit
namespace Nm
open _root_.Go.Proofs.YtiieckboccbhhaaGreatDoor.Nt (RH RH.cell RH.box RH.row RH.lt RH.new RH.ext RH.fre RH.set RH.other wp_frs1 cs_other')
theorem tailQ_sm {n m k : Nat} (hn : n ≤ 60) (hm : m ≤ 1000) (hk : k ≤ n + 1) : wlen (tailQ n m k).num.natAbs ≤ 100000000 ∧ wlen (tailQ n m k).den ≤ 100000000 := by
 have hd : (1000 ^ n : Nat) ≠ 0 := by have := Nat.pow_pos (n := n) (show 0 < 1000 by decide); omega
 have h1 := wlen_pow (show 1000 < B by decide) n
 have h2 := wlen_mono (tailN_le n m hm hk)
 rw [tailQ_norm n m k hd, norm_abs, norm_den]
 exact ⟨Nat.le_trans (wlen_mono (Nat.div_le_self _ _)) (by omega), Nat.le_trans (wlen_mono (Nat.div_le_self _ _)) (by omega)⟩
theorem twithin_yes (n low high : Int) (h1 : low ≤ n) (h2 : n ≤ high) (w : World) : Calls Tryz.prog 17 #[.int .i64 n, .int .i64 low, .int .i64 high] w fun e w' => e = .returned (.bool true) ∧ w = w' := by
 go_enter Tryz.func17, Tryz.ntmps17
 go_wp2
 go_ret
 exact ⟨rfl, rfl⟩
theorem twithin_no (n low high : Int) (h : n < low ∨ high < n) (w : World) : Calls Tryz.prog 17 #[.int .i64 n, .int .i64 low, .int .i64 high] w fun e w' => e = .returned (.bool false) ∧ w = w' := by
 by_cases h1 : n < low
 ·clear h
  go_enter Tryz.func17, Tryz.ntmps17
  go_wp2
  go_ret
  exact ⟨rfl, rfl⟩
 ·have h2 : decide (n ≤ high) = false := decide_eq_false (by omega)
  have h3 : low ≤ n := by omega
  clear h h1
  go_enter Tryz.func17, Tryz.ntmps17
  go_wp2
  go_ret
  exact ⟨rfl, rfl⟩
set_option maxRecDepth 100000 in
set_option maxHeartbeats 16000000 in
theorem metTail_at (n m k : Int) (w : World) : Calls Tryz.prog 6 #[.int .i64 n, .int .i64 m, .int .i64 k] w (AnsPost w (tlN n m k) (tlD n m k) (tlF n m k)) := by
 go_enter Tryz.func6, Tryz.ntmps6
 go_upto_region 1 with (fail)
 refine wp_frs1 fun w1' hbz hR0 => ?_
 have HR_o : Hid (RH w1' w.heap.size #[.string ⟨#[]⟩, .string ⟨#[]⟩] 23) := Lib.hid hR0
 have HW := Lib.hid hbz
 clear hbz hR0
 by_cases hc : 0 ≤ n ∧ n ≤ 60
 ·go_wp2_with fail
  refine (twithin_yes n 0 60 hc.1 hc.2 w1').mono ?_
  rintro e w2' ⟨rfl, hw9⟩
  have hbz : Below w1'.heap.size w1' w2' := by rw [← hw9]; exact Below.refl _ _
  clear hw9
  replace HR_o := Lib.hid (HR_o.out.ext hbz)
  replace HW := Lib.hid (ext_trans HW.out hbz)
  clear hbz
  have hc1 := hc
  clear hc
  by_cases hc : 0 ≤ m ∧ m ≤ 1000
  ·go_wp2_with fail
   refine (twithin_yes m 0 1000 hc.1 hc.2 w2').mono ?_
   rintro e w3' ⟨rfl, hw9⟩
   have hbz : Below w2'.heap.size w2' w3' := by rw [← hw9]; exact Below.refl _ _
   clear hw9
   replace HR_o := Lib.hid (HR_o.out.ext hbz)
   replace HW := Lib.hid (ext_trans HW.out hbz)
   clear hbz
   have hc2 := hc
   clear hc
   by_cases hc : 0 ≤ k ∧ k ≤ n + 1
   ·have hw1 : IntKind.i64.wrap (n + 1) = n + 1 := IntWalk.i64_in _ (by constructor <;> omega)
    go_wp2_with fail
    refine (twithin_yes k 0 (n + 1) hc.1 hc.2 w3').mono ?_
    rintro e w4' ⟨rfl, hw9⟩
    have hbz : Below w3'.heap.size w3' w4' := by rw [← hw9]; exact Below.refl _ _
    clear hw9
    replace HR_o := Lib.hid (HR_o.out.ext hbz)
    replace HW := Lib.hid (ext_trans HW.out hbz)
    clear hbz
    obtain ⟨n', hn'⟩ : ∃ z : Nat, n = (z : Int) := ⟨n.toNat, by omega⟩
    obtain ⟨m', hm'⟩ : ∃ z : Nat, m = (z : Int) := ⟨m.toNat, by omega⟩
    obtain ⟨k', hk'⟩ : ∃ z : Nat, k = (z : Int) := ⟨k.toNat, by omega⟩
    subst hn'
    subst hm'
    subst hk'
    have HOK := Lib.hid (tl_yes (n := n') (m := m') (k := k') (by unfold tlOk; omega))
    have HSM := Lib.hid (tailQ_sm (n := n') (m := m') (k := k') (by omega) (by omega) (by omega))
    obtain ⟨q, hq⟩ : ∃ z, tailQ n' m' k' = z := ⟨_, rfl⟩
    have HQ := Lib.hid hq
    rw [hq] at HOK HSM
    clear hq
    go_wp2_with fail
    refine ((by have h := tail_at n' m' k' (by omega) (by omega) (by omega) w4'; rw [HQ.out] at h; exact h : Calls _ _ _ w4' (XPost w4' q))).mono ?_
    rintro e w5' ⟨v9, rfl, hx9, hbz⟩
    have HX9 := Lib.hid hx9
    clear hx9
    replace HR_o := Lib.hid (HR_o.out.ext hbz)
    replace HW := Lib.hid (ext_trans HW.out hbz)
    clear hbz
    go_wp2_with fail
    refine (((ratio_at q v9 w5' HX9.out HSM.out.1 HSM.out.2).mono (fun e w' h => ⟨by rw [HOK.out.1, HOK.out.2.1, HOK.out.2.2]; exact h.1, h.2⟩) : Calls _ _ _ w5' (AnsPost w5' (tlN n' m' k') (tlD n' m' k') (tlF n' m' k')))).mono ?_
    rintro e w6' ⟨rfl, hbz⟩
    replace HR_o := Lib.hid (HR_o.out.ext hbz)
    replace HW := Lib.hid (ext_trans HW.out hbz)
    clear hbz
    obtain ⟨sn, hsn⟩ : ∃ z, tlN n' m' k' = z := ⟨_, rfl⟩
    obtain ⟨sd, hsd⟩ : ∃ z, tlD n' m' k' = z := ⟨_, rfl⟩
    obtain ⟨sf, hsf⟩ : ∃ z, tlF n' m' k' = z := ⟨_, rfl⟩
    have HSS := Lib.hid (And.intro hsn (And.intro hsd hsf))
    rw [hsn, hsd, hsf]
    clear hsn hsd hsf
    obtain ⟨c_o_0, c_o_1⟩ := zs2 HR_o.out
    have f_o_0 := HR_o.out.fre 0
    have f_o_1 := HR_o.out.fre 1
    go_wp2
    obtain ⟨w7', hX⟩ : ∃ Z9, Z9 = ((w6'.setCell ⟨w.heap.size, 0, none⟩ (.string sn)).setCell ⟨w.heap.size, 1, none⟩ (.string sd)) := ⟨_, rfl⟩
    rw [← hX]
    have n_o : Hid (RH w7' w.heap.size #[.string sn, .string sd] 23) := by rw [hX]; exact Lib.hid (((HR_o.out).set 0 (.string sn)).set 1 (.string sd))
    have HK_ : ∀ p : Addr, p.block ≠ w.heap.size → w7'.cell? p = w6'.cell? p := fun p hp => by rw [hX]; exact (cs_other' hp).trans (cs_other' hp)
    have nW : Hid (Below w.heap.size w w7') := by rw [hX]; exact Lib.hid (zzw (zzw (HW.out) (by omega)) (by omega))
    clear c_o_0 c_o_1 f_o_0 f_o_1
    clear hX HK_ HW HR_o 
    have HR_o := n_o; clear n_o
    have HW := nW; clear nW
    refine bodyPost_ret (v := .tuple #[.agg #[.string sn, .string sd], .int .i64 sf]) ?_ rfl ⟨by rw [HSS.out.1, HSS.out.2.1, HSS.out.2.2], HW.out⟩
    have hld := run_loadVar_row (P := Tryz.prog) _ _ _ 23 _ _ _ HR_o.out Tryz.underlying23 rfl (by kernel_rfl : (Tryz.prog.info? 23).map (·.size) = some 2)
    rw [results_cell_tmp rfl]
    simp [asAddr, Result.andThen, hld]
   ·have hw1 : IntKind.i64.wrap (n + 1) = n + 1 := IntWalk.i64_in _ (by constructor <;> omega)
    go_wp2_with fail
    refine (twithin_no k 0 (n + 1) (by omega) w3').mono ?_
    rintro e w4' ⟨rfl, hw9⟩
    have hbz : Below w3'.heap.size w3' w4' := by rw [← hw9]; exact Below.refl _ _
    clear hw9
    replace HR_o := Lib.hid (HR_o.out.ext hbz)
    replace HW := Lib.hid (ext_trans HW.out hbz)
    clear hbz
    have HP := Lib.hid (tl_no (n := n) (m := m) (k := k) (by unfold tlOk; omega))
    obtain ⟨c_o_0, c_o_1⟩ := zs2 HR_o.out
    have f_o_0 := HR_o.out.fre 0
    have f_o_1 := HR_o.out.fre 1
    go_wp2
    obtain ⟨w5', hX⟩ : ∃ Z9, Z9 = ((w4'.setCell ⟨w.heap.size, 0, none⟩ (.string ⟨#[]⟩)).setCell ⟨w.heap.size, 1, none⟩ (.string ⟨#[]⟩)) := ⟨_, rfl⟩
    rw [← hX]
    have n_o : Hid (RH w5' w.heap.size #[.string ⟨#[]⟩, .string ⟨#[]⟩] 23) := by rw [hX]; exact Lib.hid (((HR_o.out).set 0 (.string ⟨#[]⟩)).set 1 (.string ⟨#[]⟩))
    have HK_ : ∀ p : Addr, p.block ≠ w.heap.size → w5'.cell? p = w4'.cell? p := fun p hp => by rw [hX]; exact (cs_other' hp).trans (cs_other' hp)
    have nW : Hid (Below w.heap.size w w5') := by rw [hX]; exact Lib.hid (zzw (zzw (HW.out) (by omega)) (by omega))
    clear c_o_0 c_o_1 f_o_0 f_o_1
    clear hX HK_ HW HR_o 
    have HR_o := n_o; clear n_o
    have HW := nW; clear nW
    refine bodyPost_ret (v := .tuple #[.agg #[.string ⟨#[]⟩, .string ⟨#[]⟩], .int .i64 1]) ?_ rfl ⟨by rw [HP.out.1, HP.out.2.1, HP.out.2.2], HW.out⟩
    have hld := run_loadVar_row (P := Tryz.prog) _ _ _ 23 _ _ _ HR_o.out Tryz.underlying23 rfl (by kernel_rfl : (Tryz.prog.info? 23).map (·.size) = some 2)
    rw [results_cell_tmp rfl]
    simp [asAddr, Result.andThen, hld]
  ·go_wp2_with fail
   refine (twithin_no m 0 1000 (by omega) w2').mono ?_
   rintro e w3' ⟨rfl, hw9⟩
   have hbz : Below w2'.heap.size w2' w3' := by rw [← hw9]; exact Below.refl _ _
   clear hw9
   replace HR_o := Lib.hid (HR_o.out.ext hbz)
   replace HW := Lib.hid (ext_trans HW.out hbz)
   clear hbz
   have HP := Lib.hid (tl_no (n := n) (m := m) (k := k) (by unfold tlOk; omega))
   obtain ⟨c_o_0, c_o_1⟩ := zs2 HR_o.out
   have f_o_0 := HR_o.out.fre 0
   have f_o_1 := HR_o.out.fre 1
   go_wp2
   obtain ⟨w4', hX⟩ : ∃ Z9, Z9 = ((w3'.setCell ⟨w.heap.size, 0, none⟩ (.string ⟨#[]⟩)).setCell ⟨w.heap.size, 1, none⟩ (.string ⟨#[]⟩)) := ⟨_, rfl⟩
   rw [← hX]
   have n_o : Hid (RH w4' w.heap.size #[.string ⟨#[]⟩, .string ⟨#[]⟩] 23) := by rw [hX]; exact Lib.hid (((HR_o.out).set 0 (.string ⟨#[]⟩)).set 1 (.string ⟨#[]⟩))
   have HK_ : ∀ p : Addr, p.block ≠ w.heap.size → w4'.cell? p = w3'.cell? p := fun p hp => by rw [hX]; exact (cs_other' hp).trans (cs_other' hp)
   have nW : Hid (Below w.heap.size w w4') := by rw [hX]; exact Lib.hid (zzw (zzw (HW.out) (by omega)) (by omega))
   clear c_o_0 c_o_1 f_o_0 f_o_1
   clear hX HK_ HW HR_o 
   have HR_o := n_o; clear n_o
   have HW := nW; clear nW
   refine bodyPost_ret (v := .tuple #[.agg #[.string ⟨#[]⟩, .string ⟨#[]⟩], .int .i64 1]) ?_ rfl ⟨by rw [HP.out.1, HP.out.2.1, HP.out.2.2], HW.out⟩
   have hld := run_loadVar_row (P := Tryz.prog) _ _ _ 23 _ _ _ HR_o.out Tryz.underlying23 rfl (by kernel_rfl : (Tryz.prog.info? 23).map (·.size) = some 2)
   rw [results_cell_tmp rfl]
   simp [asAddr, Result.andThen, hld]
 ·go_wp2_with fail
  refine (twithin_no n 0 60 (by omega) w1').mono ?_
  rintro e w2' ⟨rfl, hw9⟩
  have hbz : Below w1'.heap.size w1' w2' := by rw [← hw9]; exact Below.refl _ _
  clear hw9
  replace HR_o := Lib.hid (HR_o.out.ext hbz)
  replace HW := Lib.hid (ext_trans HW.out hbz)
  clear hbz
  have HP := Lib.hid (tl_no (n := n) (m := m) (k := k) (by unfold tlOk; omega))
  obtain ⟨c_o_0, c_o_1⟩ := zs2 HR_o.out
  have f_o_0 := HR_o.out.fre 0
  have f_o_1 := HR_o.out.fre 1
  go_wp2
  obtain ⟨w3', hX⟩ : ∃ Z9, Z9 = ((w2'.setCell ⟨w.heap.size, 0, none⟩ (.string ⟨#[]⟩)).setCell ⟨w.heap.size, 1, none⟩ (.string ⟨#[]⟩)) := ⟨_, rfl⟩
  rw [← hX]
  have n_o : Hid (RH w3' w.heap.size #[.string ⟨#[]⟩, .string ⟨#[]⟩] 23) := by rw [hX]; exact Lib.hid (((HR_o.out).set 0 (.string ⟨#[]⟩)).set 1 (.string ⟨#[]⟩))
  have HK_ : ∀ p : Addr, p.block ≠ w.heap.size → w3'.cell? p = w2'.cell? p := fun p hp => by rw [hX]; exact (cs_other' hp).trans (cs_other' hp)
  have nW : Hid (Below w.heap.size w w3') := by rw [hX]; exact Lib.hid (zzw (zzw (HW.out) (by omega)) (by omega))
  clear c_o_0 c_o_1 f_o_0 f_o_1
  clear hX HK_ HW HR_o 
  have HR_o := n_o; clear n_o
  have HW := nW; clear nW
  refine bodyPost_ret (v := .tuple #[.agg #[.string ⟨#[]⟩, .string ⟨#[]⟩], .int .i64 1]) ?_ rfl ⟨by rw [HP.out.1, HP.out.2.1, HP.out.2.2], HW.out⟩
  have hld := run_loadVar_row (P := Tryz.prog) _ _ _ 23 _ _ _ HR_o.out Tryz.underlying23 rfl (by kernel_rfl : (Tryz.prog.info? 23).map (·.size) = some 2)
  rw [results_cell_tmp rfl]
  simp [asAddr, Result.andThen, hld]
end Nm
end Go.Proofs.YtiieckboccbhhaaGreatDoor
