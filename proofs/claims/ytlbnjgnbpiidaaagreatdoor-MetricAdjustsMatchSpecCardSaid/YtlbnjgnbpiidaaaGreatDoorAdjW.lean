/- The walk of MetricAdjustsMatchSpec. Printed by gen_lawadj.py. -/
import Derived.Test.YtlbnjgnbpiidaaaGreatDoorRAdjCZ2
namespace Go.Proofs.YtlbnjgnbpiidaaaGreatDoor
open Go.RowKit
namespace Nm
open _root_.Go.Proofs.YtlbnjgnbpiidaaaGreatDoor.Nt (RH RH.cell RH.box RH.row RH.lt RH.new RH.ext RH.fre RH.set RH.other RH.row_other store_cells Tab Tab.ext)
theorem evL_len (e : EV) : (evL e).length = 5 := rfl

set_option maxRecDepth 100000 in
set_option maxHeartbeats 8000000 in
theorem equal_ests (l : List EV) (a a' : Option Addr) (c c' : Nat) (w : World) (s1 : Sl w (.slice a l.length c) l.length (l.flatMap evL)) (s2 : Sl w (.slice a' l.length c') l.length (l.flatMap evL)) :
  Calls Tryz.prog 9 #[.slice a l.length c, .slice a' l.length c'] w fun e w' => e = .returned (.bool true) ∧ Below w.heap.size w w' := by
 have hl : l.length ≤ 9223372036854775807 := by obtain ⟨_, _, hv, h1, h2, _⟩ := s1; cases hv; unfold maxLen at h2; omega
 have hne : ((l.length : Int) != (l.length : Int)) = false := by simp
 go_enter Tryz.func9, Tryz.ntmps9
 go_wp2
 go_loopw [13] (fun i wr => ∃ k : Nat, k ≤ l.length ∧ i = .int .i64 k ∧ Below w.heap.size w wr) (fun i _ => l.length - (intOf i).toNat)
 case atStart => exact ⟨0, by omega, rfl, Below.refl _ _⟩
 case round =>
  obtain ⟨k, hk, rfl, hb⟩ := hrel
  by_cases hlt : k < l.length
  ·have hgk := List.getElem?_eq_getElem hlt
   generalize l[k] = s at hgk
   obtain ⟨b, o, rfl, hcs⟩ := (s1.ext hb).elem evL_len (by omega : 0 < 5) hgk
   obtain ⟨b', o', rfl, hcs'⟩ := (s2.ext hb).elem evL_len (by omega : 0 < 5) hgk
   have e0 := hcs 0 _ rfl
   have f0 := hcs' 0 _ rfl
   have e1 := hcs 1 _ rfl
   have f1 := hcs' 1 _ rfl
   have e2 := hcs 2 _ rfl
   have f2 := hcs' 2 _ rfl
   have e3 := hcs 3 _ rfl
   have f3 := hcs' 3 _ rfl
   have e4 := hcs 4 _ rfl
   have f4 := hcs' 4 _ rfl
   rw [Nat.add_zero] at e0 f0
   clear hcs hcs' hgk
   have hi0 : (0 : Int) ≤ (k : Int) := Int.natCast_nonneg _
   have hi1 : (k : Int) < (l.length : Int) := by omega
   go_wp2_with fail
   go_quiet (fail)
   go_wp2
   exact ⟨⟨k + 1, by omega, by go_num, below_drewN hb _⟩, by simp [intOf]; omega⟩
  ·go_wp2
   go_ret
   exact ⟨rfl, hb⟩
set_option maxRecDepth 100000 in
set_option maxHeartbeats 16000000 in
theorem lawAdj_at (l : List MV) (a : Option Addr) (c : Nat) (w : World) (hs : Sl w (.slice a l.length c) l.length (l.flatMap mnL)) (hok : ∀ m ∈ l, m.r.ok) (ht : Tab w) :
  Calls Tryz.prog 3 #[.slice a l.length c] w fun e w' => e = .returned (.bool true) ∧ Below w.heap.size w w' := by
 have hl63 : l.length ≤ 9223372036854775807 := by obtain ⟨_, _, hv, h1, h2, _⟩ := hs; cases hv; unfold maxLen at h2; omega
 have HS := Lib.hid hs
 have HKO := Lib.hid hok
 clear hs hok
 obtain ⟨fa, hfa⟩ : ∃ z, raF 1 l = z := ⟨_, rfl⟩
 obtain ⟨sa0, hsa0⟩ : ∃ z, rtN (raF 1 l) (slQ (armL l)) = z := ⟨_, rfl⟩
 obtain ⟨sa1, hsa1⟩ : ∃ z, rtD (raF 1 l) (slQ (armL l)) = z := ⟨_, rfl⟩
 have H_a := Lib.hid (And.intro hsa0 (And.intro hsa1 hfa))
 clear hfa hsa0 hsa1
 obtain ⟨fj, hfj⟩ : ∃ z, raF 2 l = z := ⟨_, rfl⟩
 have HFJ := Lib.hid hfj
 clear hfj
 go_enter Tryz.func3, Tryz.ntmps3
 have HT0 := Lib.hid ht
 clear ht
 have HW : Hid (Below w.heap.size w w) := Lib.hid (Below.refl _ _)
 go_wp2_with fail
 refine (slopeM_at l a c w (HS.out.ext HW.out) HKO.out).mono ?_
 rintro e w1' ⟨rfl, hbz⟩
 rw [H_a.out.1, H_a.out.2.1, H_a.out.2.2]
 replace HW := Lib.hid (ext_trans HW.out hbz)
 clear hbz
 go_upto_region 2 with (fail)
 refine wp_rows1 fun w2' hbz hR0 => ?_
 have le_a : w.heap.size ≤ w1'.heap.size := HW.out.size
 replace HW := Lib.hid (ext_trans HW.out hbz)
 clear hbz
 have HR_a : Hid (RH w2' w1'.heap.size #[.string sa0, .string sa1] 24) := Lib.hid hR0
 clear hR0
 generalize w1'.heap.size = b_a at *
 go_wp2_with fail
 refine (Nt.refSlope_at l a c w2' (HS.out.ext HW.out) HKO.out (HT0.out.ext HW.out)).mono ?_
 rintro e w3' ⟨rfl, hbz⟩
 rw [H_a.out.1, H_a.out.2.1, H_a.out.2.2]
 replace HR_a := Lib.hid (HR_a.out.ext hbz)
 replace HW := Lib.hid (ext_trans HW.out hbz)
 clear hbz
 go_upto_region 3 with (fail)
 refine wp_rows1 fun w4' hbz hR0 => ?_
 have lt_a_b : b_a < w3'.heap.size := HR_a.out.lt
 have le_b : w.heap.size ≤ w3'.heap.size := HW.out.size
 replace HR_a := Lib.hid (HR_a.out.ext hbz)
 replace HW := Lib.hid (ext_trans HW.out hbz)
 clear hbz
 have HR_b : Hid (RH w4' w3'.heap.size #[.string sa0, .string sa1] 24) := Lib.hid hR0
 clear hR0
 generalize w3'.heap.size = b_b at *
 obtain ⟨c_a_0, c_a_1⟩ := zs2 HR_a.out
 obtain ⟨c_b_0, c_b_1⟩ := zs2 HR_b.out
 go_wp2_with fail
 refine (adjM_at l a c w4' (HS.out.ext HW.out) HKO.out).mono ?_
 rintro e w5' ⟨ax, cx, rfl, hsx, hbz⟩
 rw [HFJ.out]
 replace HR_a := Lib.hid (HR_a.out.ext hbz)
 replace HR_b := Lib.hid (HR_b.out.ext hbz)
 replace HW := Lib.hid (ext_trans HW.out hbz)
 clear c_a_0 c_a_1 c_b_0 c_b_1
 clear hbz
 have HSX : Hid (Sl w5' (.slice ax (ajsL l).length cx) (ajsL l).length ((ajsL l).flatMap evL)) := Lib.hid hsx
 clear hsx
 clear HR_a
 clear HR_b
 go_wp2_with fail
 refine (Nt.refAdj_at l a c w5' (HS.out.ext HW.out) HKO.out (HT0.out.ext HW.out)).mono ?_
 rintro e w6' ⟨ay, cy, rfl, hsy, hbz⟩
 rw [HFJ.out]
 replace HSX := Lib.hid (HSX.out.ext hbz)
 replace HW := Lib.hid (ext_trans HW.out hbz)
 clear hbz
 have HSY : Hid (Sl w6' (.slice ay (ajsL l).length cy) (ajsL l).length ((ajsL l).flatMap evL)) := Lib.hid hsy
 clear hsy
 obtain ⟨jl, hjl⟩ : ∃ z, ajsL l = z := ⟨_, rfl⟩
 rw [hjl] at HSX HSY ⊢
 clear hjl HFJ
 go_wp2_with fail
 refine (equal_ests jl ax ay cx cy w6' HSX.out HSY.out).mono ?_
 rintro e w7' ⟨rfl, hbz⟩
 replace HSX := Lib.hid (HSX.out.ext hbz)
 replace HSY := Lib.hid (HSY.out.ext hbz)
 replace HW := Lib.hid (ext_trans HW.out hbz)
 clear hbz
 clear HSX
 clear HSY
 go_wp2
 go_loopw [12, 14, 54] (fun _ _ i wr => ∃ k : Nat, k ≤ l.length ∧ i = .int .i64 (k : Int) ∧ (Below w.heap.size w wr)) (fun _ _ i _ => l.length - (intOf i).toNat)
 case atStart => exact ⟨0, by omega, rfl, HW.out⟩
 case round =>
  obtain ⟨k, hk, rfl, q_HW⟩ := hrel
  clear HW
  have HW := Lib.hid q_HW
  clear q_HW
  generalize hX : wr = X at *
  clear hX
  by_cases hlt : k < l.length
  ·have hgk := List.getElem?_eq_getElem hlt
   have HOK := Lib.hid (HKO.out _ (List.getElem_mem hlt))
   generalize l[k] = mv at *
   obtain ⟨n, r⟩ := mv
   obtain ⟨pb, po, hp9, hcs⟩ := (HS.out.ext HW.out).elem (f := mnL) (fun _ => rfl) (by omega : 0 < 11) hgk
   subst hp9
   have e0 : X.cell? ⟨pb, po + k * 11, none⟩ = some (.int .i64 (n)) := hcs 0 _ rfl
   have e1 : X.cell? ⟨pb, po + k * 11 + 1, none⟩ = some (.string r.x.n) := hcs 1 _ rfl
   have e2 : X.cell? ⟨pb, po + k * 11 + 2, none⟩ = some (.string r.x.d) := hcs 2 _ rfl
   have e3 : X.cell? ⟨pb, po + k * 11 + 3, none⟩ = some (.string r.y.n) := hcs 3 _ rfl
   have e4 : X.cell? ⟨pb, po + k * 11 + 4, none⟩ = some (.string r.y.d) := hcs 4 _ rfl
   have e5 : X.cell? ⟨pb, po + k * 11 + 5, none⟩ = some (.string r.xx.n) := hcs 5 _ rfl
   have e6 : X.cell? ⟨pb, po + k * 11 + 6, none⟩ = some (.string r.xx.d) := hcs 6 _ rfl
   have e7 : X.cell? ⟨pb, po + k * 11 + 7, none⟩ = some (.string r.yy.n) := hcs 7 _ rfl
   have e8 : X.cell? ⟨pb, po + k * 11 + 8, none⟩ = some (.string r.yy.d) := hcs 8 _ rfl
   have e9 : X.cell? ⟨pb, po + k * 11 + 9, none⟩ = some (.string r.xy.n) := hcs 9 _ rfl
   have e10 : X.cell? ⟨pb, po + k * 11 + 10, none⟩ = some (.string r.xy.d) := hcs 10 _ rfl
   have hk0 : (0 : Int) ≤ (k : Int) := Int.natCast_nonneg _
   have hk1 : (k : Int) < (l.length : Int) := by omega
   have hk3 : (k : Int).toNat = k := by omega
   clear hcs hgk
   obtain ⟨fq, hfq⟩ : ∃ z, quF n r = z := ⟨_, rfl⟩
   obtain ⟨sq0, hsq0⟩ : ∃ z, nF (quF n r) n = z := ⟨_, rfl⟩
   obtain ⟨sq1, hsq1⟩ : ∃ z, rtN (quF n r) (quR r.q) = z := ⟨_, rfl⟩
   obtain ⟨sq2, hsq2⟩ : ∃ z, rtD (quF n r) (quR r.q) = z := ⟨_, rfl⟩
   obtain ⟨sq3, hsq3⟩ : ∃ z, rtN (quF n r) (quV n r.q) = z := ⟨_, rfl⟩
   obtain ⟨sq4, hsq4⟩ : ∃ z, rtD (quF n r) (quV n r.q) = z := ⟨_, rfl⟩
   have H_q := Lib.hid (And.intro hsq0 (And.intro hsq1 (And.intro hsq2 (And.intro hsq3 (And.intro hsq4 hfq)))))
   clear hfq hsq0 hsq1 hsq2 hsq3 hsq4
   go_upto_region 12 with (fail)
   refine wp_rows1 fun w8' hbz hR0 => ?_
   have le_m : w.heap.size ≤ X.heap.size := HW.out.size
   replace HW := Lib.hid (ext_trans HW.out hbz)
   clear e0 e1 e2 e3 e4 e5 e6 e7 e8 e9 e10
   clear hbz
   have HR_m : Hid (RH w8' X.heap.size (mrA (n) r) 35) := Lib.hid hR0
   clear hR0
   generalize X.heap.size = b_m at *
   go_wp2_with (first | (refine wpList_load_row rfl _ _ rfl b_m rfl _ (mrA (n) r) _ _ HR_m.out Tryz.underlying35 rfl (mr_info _ _) ?_))
   refine (quotM_at n r HOK.out w8').mono ?_
   rintro e w9' ⟨rfl, hbz⟩
   rw [H_q.out.1, H_q.out.2.1, H_q.out.2.2.1, H_q.out.2.2.2.1, H_q.out.2.2.2.2.1, H_q.out.2.2.2.2.2]
   replace HR_m := Lib.hid (HR_m.out.ext hbz)
   replace HW := Lib.hid (ext_trans HW.out hbz)
   clear hbz
   go_upto_region 13 with (fail)
   refine wp_rows1 fun w10' hbz hR0 => ?_
   have lt_m_u : b_m < w9'.heap.size := HR_m.out.lt
   have le_u : w.heap.size ≤ w9'.heap.size := HW.out.size
   replace HR_m := Lib.hid (HR_m.out.ext hbz)
   replace HW := Lib.hid (ext_trans HW.out hbz)
   clear hbz
   have HR_u : Hid (RH w10' w9'.heap.size #[.int .i64 sq0, .string sq1, .string sq2, .string sq3, .string sq4] 33) := Lib.hid hR0
   clear hR0
   generalize w9'.heap.size = b_u at *
   go_wp2_with (first | (refine wpList_load_row rfl _ _ rfl b_m rfl _ (mrA (n) r) _ _ HR_m.out Tryz.underlying35 rfl (mr_info _ _) ?_))
   refine (Nt.refQuot_at n r HOK.out w10' (HT0.out.ext HW.out)).mono ?_
   rintro e w11' ⟨rfl, hbz⟩
   rw [H_q.out.1, H_q.out.2.1, H_q.out.2.2.1, H_q.out.2.2.2.1, H_q.out.2.2.2.2.1, H_q.out.2.2.2.2.2]
   replace HR_m := Lib.hid (HR_m.out.ext hbz)
   replace HR_u := Lib.hid (HR_u.out.ext hbz)
   replace HW := Lib.hid (ext_trans HW.out hbz)
   clear hbz
   go_upto_region 14 with (fail)
   refine wp_rows1 fun w12' hbz hR0 => ?_
   have lt_m_v : b_m < w11'.heap.size := HR_m.out.lt
   have lt_u_v : b_u < w11'.heap.size := HR_u.out.lt
   have le_v : w.heap.size ≤ w11'.heap.size := HW.out.size
   replace HR_m := Lib.hid (HR_m.out.ext hbz)
   replace HR_u := Lib.hid (HR_u.out.ext hbz)
   replace HW := Lib.hid (ext_trans HW.out hbz)
   clear hbz
   have HR_v : Hid (RH w12' w11'.heap.size #[.int .i64 sq0, .string sq1, .string sq2, .string sq3, .string sq4] 33) := Lib.hid hR0
   clear hR0
   generalize w11'.heap.size = b_v at *
   obtain ⟨c_u_0, c_u_1, c_u_2, c_u_3, c_u_4⟩ := zs5 HR_u.out
   obtain ⟨c_v_0, c_v_1, c_v_2, c_v_3, c_v_4⟩ := zs5 HR_v.out
   go_wp2
   go_roundw
   case rel => exact ⟨k + 1, by omega, by go_num, HW.out⟩
   case measure => simp [intOf]; omega
  ·go_wp2
   go_ret
   exact ⟨by simp, HW.out⟩
end Nm
end Go.Proofs.YtlbnjgnbpiidaaaGreatDoor
