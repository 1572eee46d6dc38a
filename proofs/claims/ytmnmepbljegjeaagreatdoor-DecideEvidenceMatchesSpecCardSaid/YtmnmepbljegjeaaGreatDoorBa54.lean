/- The walk of the law of evidences: for every test, all trials and all numbers it returns true, where the table of strconv lies. Printed by gen_lawevid.py. -/
import Derived.Test.YtmnmepbljegjeaaGreatDoorBa53
import Derived.Test.YtmnmepbljegjeaaGreatDoorBa52
import Derived.Test.YtmnmepbljegjeaaGreatDoorBa71
namespace Go.Proofs.YtmnmepbljegjeaaGreatDoor.lawEvid
open Go.RowKit _root_.Go.Proofs.YtmnmepbljegjeaaGreatDoor.Nm _root_.Go.Proofs.YtmnmepbljegjeaaGreatDoor.Nt
set_option maxRecDepth 100000 in
set_option maxHeartbeats 16000000 in
theorem walk (d k : Int) (n m : ByteArray) (hn : n.size ≤ maxLen) (hm : m.size ≤ maxLen) (up down : Int) (l : List Tri) (a : Option Addr) (c : Nat) (p : Int) (w : World) (hs : Sl w (.slice a l.length c) l.length (l.flatMap triL)) (ht : Tab w) :
    Calls Tryz.prog 5 #[.agg #[.int .i64 d, .int .i64 k, .string n, .string m], .int .i64 up, .int .i64 down, .slice a l.length c, .int .i64 p] w fun e w' => e = .returned (.bool true) ∧ Below w.heap.size w w' := by
  have HS := Lib.hid hs
  clear hs
  have HSZ := Lib.hid (And.intro hn hm)
  clear hn hm
  obtain ⟨en, hen⟩ : ∃ x, evN d k n m up down = x := ⟨_, rfl⟩
  obtain ⟨ed, hed⟩ : ∃ x, evD d k n m up down = x := ⟨_, rfl⟩
  obtain ⟨ef, hef⟩ : ∃ x, evF d k n m up down = x := ⟨_, rfl⟩
  have HE := Lib.hid (And.intro hen (And.intro hed hef))
  clear hen hed hef
  obtain ⟨C, hC⟩ : ∃ x, crsV d k n m l = x := ⟨_, rfl⟩
  obtain ⟨cf, hcf⟩ : ∃ x, decF d k n m l = x := ⟨_, rfl⟩
  obtain ⟨cv, hcv⟩ : ∃ x, decV d k n m l = x := ⟨_, rfl⟩
  have HC := Lib.hid (And.intro hC (And.intro hcf hcv))
  clear hC hcf hcv
  obtain ⟨lo, hlo⟩ : ∃ x, lnO d k n m p = x := ⟨_, rfl⟩
  obtain ⟨lf, hlf⟩ : ∃ x, lnF d k n m p = x := ⟨_, rfl⟩
  have HL := Lib.hid (And.intro hlo hlf)
  clear hlo hlf
  go_enter Tryz.func5, Tryz.ntmps5
  have HT0 := Lib.hid ht
  clear ht
  go_upto_region 1 with (fail)
  refine wp_box1 fun w1' hsz hbW hA0 => ?_
  clear hsz
  have HB_t := Lib.hid hA0
  have HW := Lib.hid hbW
  clear hbW hA0
  have c_t_0 : w1'.cell? ⟨w.heap.size, 0, none⟩ = some (.int .i64 d) := HB_t.out.2 0
  have c_t_1 : w1'.cell? ⟨w.heap.size, 1, none⟩ = some (.int .i64 k) := HB_t.out.2 1
  have c_t_2 : w1'.cell? ⟨w.heap.size, 2, none⟩ = some (.string n) := HB_t.out.2 2
  have c_t_3 : w1'.cell? ⟨w.heap.size, 3, none⟩ = some (.string m) := HB_t.out.2 3
  go_wp2_with fail
  refine (progEvidence_at d k n m HSZ.out.1 HSZ.out.2 up down w1').mono ?_
  rintro e w2' ⟨rfl, hbz⟩
  rw [HE.out.1, HE.out.2.1, HE.out.2.2]
  replace HB_t := Lib.hid (HB_t.out.ext hbz)
  replace HW := Lib.hid (ext_trans HW.out hbz)
  clear c_t_0 c_t_1 c_t_2 c_t_3
  clear hbz
  go_upto_region 2 with (fail)
  refine wp_box1 fun w3' hsz hbz hC => ?_
  clear hsz
  have lt_t_x : w.heap.size < w2'.heap.size := HB_t.out.1
  have le_x : w.heap.size ≤ w2'.heap.size := HW.out.size
  replace HB_t := Lib.hid (HB_t.out.ext hbz)
  replace HW := Lib.hid (ext_trans HW.out hbz)
  clear hbz
  have HB_x := Lib.hid hC
  clear hC
  generalize w2'.heap.size = b_x at *
  have c_t_0 : w3'.cell? ⟨w.heap.size, 0, none⟩ = some (.int .i64 d) := HB_t.out.2 0
  have c_t_1 : w3'.cell? ⟨w.heap.size, 1, none⟩ = some (.int .i64 k) := HB_t.out.2 1
  have c_t_2 : w3'.cell? ⟨w.heap.size, 2, none⟩ = some (.string n) := HB_t.out.2 2
  have c_t_3 : w3'.cell? ⟨w.heap.size, 3, none⟩ = some (.string m) := HB_t.out.2 3
  go_wp2_with fail
  refine (refEvidence_at d k n m HSZ.out.1 HSZ.out.2 up down w3' (HT0.out.ext HW.out)).mono ?_
  rintro e w4' ⟨rfl, hbz⟩
  rw [HE.out.1, HE.out.2.1, HE.out.2.2]
  replace HB_t := Lib.hid (HB_t.out.ext hbz)
  replace HB_x := Lib.hid (HB_x.out.ext hbz)
  replace HW := Lib.hid (ext_trans HW.out hbz)
  clear c_t_0 c_t_1 c_t_2 c_t_3
  clear hbz
  go_upto_region 3 with (fail)
  refine wp_box1 fun w5' hsz hbz hC => ?_
  clear hsz
  have lt_t_y : w.heap.size < w4'.heap.size := HB_t.out.1
  have lt_x_y : b_x < w4'.heap.size := HB_x.out.1
  have le_y : w.heap.size ≤ w4'.heap.size := HW.out.size
  replace HB_t := Lib.hid (HB_t.out.ext hbz)
  replace HB_x := Lib.hid (HB_x.out.ext hbz)
  replace HW := Lib.hid (ext_trans HW.out hbz)
  clear hbz
  have HB_y := Lib.hid hC
  clear hC
  generalize w4'.heap.size = b_y at *
  have c_t_0 : w5'.cell? ⟨w.heap.size, 0, none⟩ = some (.int .i64 d) := HB_t.out.2 0
  have c_t_1 : w5'.cell? ⟨w.heap.size, 1, none⟩ = some (.int .i64 k) := HB_t.out.2 1
  have c_t_2 : w5'.cell? ⟨w.heap.size, 2, none⟩ = some (.string n) := HB_t.out.2 2
  have c_t_3 : w5'.cell? ⟨w.heap.size, 3, none⟩ = some (.string m) := HB_t.out.2 3
  have c_x_0 : w5'.cell? ⟨b_x, 0, none⟩ = some (.string en) := HB_x.out.2 0
  have c_x_1 : w5'.cell? ⟨b_x, 1, none⟩ = some (.string ed) := HB_x.out.2 1
  have c_y_0 : w5'.cell? ⟨b_y, 0, none⟩ = some (.string en) := HB_y.out.2 0
  have c_y_1 : w5'.cell? ⟨b_y, 1, none⟩ = some (.string ed) := HB_y.out.2 1
  go_wp2_with fail
  refine (Course_at d k n m HSZ.out.1 HSZ.out.2 l a c w5' (HS.out.ext HW.out)).mono ?_
  rintro e w6' ⟨a1, c1, rfl, hs1, hbz⟩
  rw [HC.out.1] at hs1
  rw [HC.out.1, HC.out.2.1]
  have HS1 := Lib.hid hs1
  clear hs1
  replace HB_t := Lib.hid (HB_t.out.ext hbz)
  replace HB_x := Lib.hid (HB_x.out.ext hbz)
  replace HB_y := Lib.hid (HB_y.out.ext hbz)
  replace HW := Lib.hid (ext_trans HW.out hbz)
  clear c_t_0 c_t_1 c_t_2 c_t_3 c_x_0 c_x_1 c_y_0 c_y_1
  clear hbz
  have c_t_0 : w6'.cell? ⟨w.heap.size, 0, none⟩ = some (.int .i64 d) := HB_t.out.2 0
  have c_t_1 : w6'.cell? ⟨w.heap.size, 1, none⟩ = some (.int .i64 k) := HB_t.out.2 1
  have c_t_2 : w6'.cell? ⟨w.heap.size, 2, none⟩ = some (.string n) := HB_t.out.2 2
  have c_t_3 : w6'.cell? ⟨w.heap.size, 3, none⟩ = some (.string m) := HB_t.out.2 3
  go_wp2_with fail
  refine (refCourse_at d k n m HSZ.out.1 HSZ.out.2 l a c w6' (HS.out.ext HW.out) (HT0.out.ext HW.out)).mono ?_
  rintro e w7' ⟨a2, c2, rfl, hs2, hbz⟩
  rw [HC.out.1] at hs2
  rw [HC.out.1, HC.out.2.1]
  have HS2 := Lib.hid hs2
  clear hs2
  replace HB_t := Lib.hid (HB_t.out.ext hbz)
  replace HB_x := Lib.hid (HB_x.out.ext hbz)
  replace HB_y := Lib.hid (HB_y.out.ext hbz)
  replace HS1 := Lib.hid (HS1.out.ext hbz)
  replace HW := Lib.hid (ext_trans HW.out hbz)
  clear c_t_0 c_t_1 c_t_2 c_t_3
  clear hbz
  go_wp2_with fail
  refine (equal_rats C a1 a2 c1 c2 w7' HS1.out HS2.out).mono ?_
  rintro e w8' ⟨rfl, hbz⟩
  replace HB_t := Lib.hid (HB_t.out.ext hbz)
  replace HB_x := Lib.hid (HB_x.out.ext hbz)
  replace HB_y := Lib.hid (HB_y.out.ext hbz)
  replace HS1 := Lib.hid (HS1.out.ext hbz)
  replace HS2 := Lib.hid (HS2.out.ext hbz)
  replace HW := Lib.hid (ext_trans HW.out hbz)
  clear hbz
  clear HS1 HS2
  have c_t_0 : w8'.cell? ⟨w.heap.size, 0, none⟩ = some (.int .i64 d) := HB_t.out.2 0
  have c_t_1 : w8'.cell? ⟨w.heap.size, 1, none⟩ = some (.int .i64 k) := HB_t.out.2 1
  have c_t_2 : w8'.cell? ⟨w.heap.size, 2, none⟩ = some (.string n) := HB_t.out.2 2
  have c_t_3 : w8'.cell? ⟨w.heap.size, 3, none⟩ = some (.string m) := HB_t.out.2 3
  go_wp2_with fail
  refine (Decided_at d k n m HSZ.out.1 HSZ.out.2 l a c w8' (HS.out.ext HW.out)).mono ?_
  rintro e w9' ⟨rfl, hbz⟩
  rw [HC.out.2.1, HC.out.2.2]
  replace HB_t := Lib.hid (HB_t.out.ext hbz)
  replace HB_x := Lib.hid (HB_x.out.ext hbz)
  replace HB_y := Lib.hid (HB_y.out.ext hbz)
  replace HW := Lib.hid (ext_trans HW.out hbz)
  clear c_t_0 c_t_1 c_t_2 c_t_3
  clear hbz
  have c_t_0 : w9'.cell? ⟨w.heap.size, 0, none⟩ = some (.int .i64 d) := HB_t.out.2 0
  have c_t_1 : w9'.cell? ⟨w.heap.size, 1, none⟩ = some (.int .i64 k) := HB_t.out.2 1
  have c_t_2 : w9'.cell? ⟨w.heap.size, 2, none⟩ = some (.string n) := HB_t.out.2 2
  have c_t_3 : w9'.cell? ⟨w.heap.size, 3, none⟩ = some (.string m) := HB_t.out.2 3
  go_wp2_with fail
  refine (refDecided_at d k n m HSZ.out.1 HSZ.out.2 l a c w9' (HS.out.ext HW.out) (HT0.out.ext HW.out)).mono ?_
  rintro e w10' ⟨rfl, hbz⟩
  rw [HC.out.2.1, HC.out.2.2]
  replace HB_t := Lib.hid (HB_t.out.ext hbz)
  replace HB_x := Lib.hid (HB_x.out.ext hbz)
  replace HB_y := Lib.hid (HB_y.out.ext hbz)
  replace HW := Lib.hid (ext_trans HW.out hbz)
  clear c_t_0 c_t_1 c_t_2 c_t_3
  clear hbz
  have c_t_0 : w10'.cell? ⟨w.heap.size, 0, none⟩ = some (.int .i64 d) := HB_t.out.2 0
  have c_t_1 : w10'.cell? ⟨w.heap.size, 1, none⟩ = some (.int .i64 k) := HB_t.out.2 1
  have c_t_2 : w10'.cell? ⟨w.heap.size, 2, none⟩ = some (.string n) := HB_t.out.2 2
  have c_t_3 : w10'.cell? ⟨w.heap.size, 3, none⟩ = some (.string m) := HB_t.out.2 3
  go_wp2_with fail
  refine (progLine_at d k n m HSZ.out.1 HSZ.out.2 p w10').mono ?_
  rintro e w11' ⟨rfl, hbz⟩
  rw [HL.out.1, HL.out.2]
  replace HB_t := Lib.hid (HB_t.out.ext hbz)
  replace HB_x := Lib.hid (HB_x.out.ext hbz)
  replace HB_y := Lib.hid (HB_y.out.ext hbz)
  replace HW := Lib.hid (ext_trans HW.out hbz)
  clear c_t_0 c_t_1 c_t_2 c_t_3
  clear hbz
  have c_t_0 : w11'.cell? ⟨w.heap.size, 0, none⟩ = some (.int .i64 d) := HB_t.out.2 0
  have c_t_1 : w11'.cell? ⟨w.heap.size, 1, none⟩ = some (.int .i64 k) := HB_t.out.2 1
  have c_t_2 : w11'.cell? ⟨w.heap.size, 2, none⟩ = some (.string n) := HB_t.out.2 2
  have c_t_3 : w11'.cell? ⟨w.heap.size, 3, none⟩ = some (.string m) := HB_t.out.2 3
  go_wp2_with fail
  refine (refLine_at d k n m HSZ.out.1 HSZ.out.2 p w11' (HT0.out.ext HW.out)).mono ?_
  rintro e w12' ⟨rfl, hbz⟩
  rw [HL.out.1, HL.out.2]
  replace HB_t := Lib.hid (HB_t.out.ext hbz)
  replace HB_x := Lib.hid (HB_x.out.ext hbz)
  replace HB_y := Lib.hid (HB_y.out.ext hbz)
  replace HW := Lib.hid (ext_trans HW.out hbz)
  clear c_t_0 c_t_1 c_t_2 c_t_3
  clear hbz
  generalize lnN lo = ln at *
  generalize lnK lo = lk at *
  go_wp2
  go_ret
  exact ⟨by simp, HW.out⟩
end Go.Proofs.YtmnmepbljegjeaaGreatDoor.lawEvid
