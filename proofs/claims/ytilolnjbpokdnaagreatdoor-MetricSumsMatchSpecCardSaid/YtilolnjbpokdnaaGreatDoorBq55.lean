/- The walk of MetricSumsMatchSpec. Printed by gen_lawsums.py. -/
import Derived.Test.YtilolnjbpokdnaaGreatDoorBq52
import Derived.Test.YtilolnjbpokdnaaGreatDoorBq53
import Derived.Test.YtilolnjbpokdnaaGreatDoorBq54
namespace Go.Proofs.YtilolnjbpokdnaaGreatDoor
open Go.RowKit
namespace Nm
open _root_.Go.Proofs.YtilolnjbpokdnaaGreatDoor.Nt (RH RH.cell RH.box RH.row RH.lt RH.new RH.ext RH.fre RH.set RH.other RH.row_other store_cells Tab Tab.ext)
theorem sumV5_mr (l : List PX) : ∃ (n : Int) (r : R5), (sumV5 l).toArray = mrA n r := by
 by_cases h : sumF l = 0
 ·exact ⟨_, _, by unfold sumV5; rw [if_pos h]; exact moC_arr _ _⟩
 ·exact ⟨_, _, by unfold sumV5; rw [if_neg h]; exact moZ_arr⟩
set_option maxRecDepth 100000 in
set_option maxHeartbeats 16000000 in
theorem lawSums_at (l : List PX) (a : Option Addr) (c : Nat) (w : World) (hs : Sl w (.slice a l.length c) l.length (l.flatMap pxL)) (ht : Tab w) :
  Calls Tryz.prog 5 #[.slice a l.length c] w fun e w' => e = .returned (.bool true) ∧ Below w.heap.size w w' := by
 have HS := Lib.hid hs
 clear hs
 obtain ⟨n, r, hA⟩ := sumV5_mr l
 obtain ⟨f, hf⟩ : ∃ z, sumF l = z := ⟨_, rfl⟩
 have HA := Lib.hid (And.intro hA hf)
 clear hA hf
 go_enter Tryz.func5, Tryz.ntmps5
 have HT0 := Lib.hid ht
 clear ht
 have HW : Hid (Below w.heap.size w w) := Lib.hid (Below.refl _ _)
 go_wp2_with fail
 refine (sumP_at l a c w HS.out).mono ?_
 rintro e w1' ⟨rfl, hbz⟩
 rw [HA.out.1, HA.out.2]
 replace HW := Lib.hid (ext_trans HW.out hbz)
 clear hbz
 have hsz : (mrA (n) r).size = 11 := rfl
 have hsc := run_storeCells_new (P := Tryz.prog) w1' 47 #[.int .i64 0, .string ⟨#[]⟩, .string ⟨#[]⟩, .string ⟨#[]⟩, .string ⟨#[]⟩, .string ⟨#[]⟩, .string ⟨#[]⟩, .string ⟨#[]⟩, .string ⟨#[]⟩, .string ⟨#[]⟩, .string ⟨#[]⟩] (mrA (n) r) (mr_info _ _) rfl (mr_all _ _)
 go_upto_region 2 with (fail)
 clear hsc hsz
 refine wp_rows1 fun w2' hbz hR0 => ?_
 have le_x : w.heap.size ≤ w1'.heap.size := HW.out.size
 replace HW := Lib.hid (ext_trans HW.out hbz)
 clear hbz
 have HR_x : Hid (RH w2' w1'.heap.size (mrA (n) r) 47) := Lib.hid hR0
 clear hR0
 generalize w1'.heap.size = b_x at *
 go_wp2_with fail
 refine (Nt.refMom_at l a c w2' (HS.out.ext HW.out) (HT0.out.ext HW.out)).mono ?_
 rintro e w3' ⟨rfl, hbz⟩
 rw [HA.out.1, HA.out.2]
 replace HR_x := Lib.hid (HR_x.out.ext hbz)
 replace HW := Lib.hid (ext_trans HW.out hbz)
 clear hbz
 have hsz : (mrA (n) r).size = 11 := rfl
 have hsc := run_storeCells_new (P := Tryz.prog) w3' 47 #[.int .i64 0, .string ⟨#[]⟩, .string ⟨#[]⟩, .string ⟨#[]⟩, .string ⟨#[]⟩, .string ⟨#[]⟩, .string ⟨#[]⟩, .string ⟨#[]⟩, .string ⟨#[]⟩, .string ⟨#[]⟩, .string ⟨#[]⟩] (mrA (n) r) (mr_info _ _) rfl (mr_all _ _)
 go_upto_region 3 with (fail)
 clear hsc hsz
 refine wp_rows1 fun w4' hbz hR0 => ?_
 have lt_x_y : b_x < w3'.heap.size := HR_x.out.lt
 have le_y : w.heap.size ≤ w3'.heap.size := HW.out.size
 replace HR_x := Lib.hid (HR_x.out.ext hbz)
 replace HW := Lib.hid (ext_trans HW.out hbz)
 clear hbz
 have HR_y : Hid (RH w4' w3'.heap.size (mrA (n) r) 47) := Lib.hid hR0
 clear hR0
 generalize w3'.heap.size = b_y at *
 have c_x_0 : w4'.cell? ⟨b_x, 0, none⟩ = some (.int .i64 (n)) := (HR_x.out.cell 0).trans rfl
 have c_x_1 : w4'.cell? ⟨b_x, 1, none⟩ = some (.string r.x.n) := (HR_x.out.cell 1).trans rfl
 have c_x_2 : w4'.cell? ⟨b_x, 2, none⟩ = some (.string r.x.d) := (HR_x.out.cell 2).trans rfl
 have c_x_3 : w4'.cell? ⟨b_x, 3, none⟩ = some (.string r.y.n) := (HR_x.out.cell 3).trans rfl
 have c_x_4 : w4'.cell? ⟨b_x, 4, none⟩ = some (.string r.y.d) := (HR_x.out.cell 4).trans rfl
 have c_x_5 : w4'.cell? ⟨b_x, 5, none⟩ = some (.string r.xx.n) := (HR_x.out.cell 5).trans rfl
 have c_x_6 : w4'.cell? ⟨b_x, 6, none⟩ = some (.string r.xx.d) := (HR_x.out.cell 6).trans rfl
 have c_x_7 : w4'.cell? ⟨b_x, 7, none⟩ = some (.string r.yy.n) := (HR_x.out.cell 7).trans rfl
 have c_x_8 : w4'.cell? ⟨b_x, 8, none⟩ = some (.string r.yy.d) := (HR_x.out.cell 8).trans rfl
 have c_x_9 : w4'.cell? ⟨b_x, 9, none⟩ = some (.string r.xy.n) := (HR_x.out.cell 9).trans rfl
 have c_x_10 : w4'.cell? ⟨b_x, 10, none⟩ = some (.string r.xy.d) := (HR_x.out.cell 10).trans rfl
 have c_y_0 : w4'.cell? ⟨b_y, 0, none⟩ = some (.int .i64 (n)) := (HR_y.out.cell 0).trans rfl
 have c_y_1 : w4'.cell? ⟨b_y, 1, none⟩ = some (.string r.x.n) := (HR_y.out.cell 1).trans rfl
 have c_y_2 : w4'.cell? ⟨b_y, 2, none⟩ = some (.string r.x.d) := (HR_y.out.cell 2).trans rfl
 have c_y_3 : w4'.cell? ⟨b_y, 3, none⟩ = some (.string r.y.n) := (HR_y.out.cell 3).trans rfl
 have c_y_4 : w4'.cell? ⟨b_y, 4, none⟩ = some (.string r.y.d) := (HR_y.out.cell 4).trans rfl
 have c_y_5 : w4'.cell? ⟨b_y, 5, none⟩ = some (.string r.xx.n) := (HR_y.out.cell 5).trans rfl
 have c_y_6 : w4'.cell? ⟨b_y, 6, none⟩ = some (.string r.xx.d) := (HR_y.out.cell 6).trans rfl
 have c_y_7 : w4'.cell? ⟨b_y, 7, none⟩ = some (.string r.yy.n) := (HR_y.out.cell 7).trans rfl
 have c_y_8 : w4'.cell? ⟨b_y, 8, none⟩ = some (.string r.yy.d) := (HR_y.out.cell 8).trans rfl
 have c_y_9 : w4'.cell? ⟨b_y, 9, none⟩ = some (.string r.xy.n) := (HR_y.out.cell 9).trans rfl
 have c_y_10 : w4'.cell? ⟨b_y, 10, none⟩ = some (.string r.xy.d) := (HR_y.out.cell 10).trans rfl
 go_wp2
 go_ret
 exact ⟨by simp, HW.out⟩
end Nm
end Go.Proofs.YtilolnjbpokdnaaGreatDoor
