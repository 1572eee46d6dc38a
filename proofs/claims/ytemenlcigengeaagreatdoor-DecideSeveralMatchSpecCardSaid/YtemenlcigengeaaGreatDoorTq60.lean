/- The walk of the law of several evidences: for all evidences, weights and misses it returns true, where the table of strconv lies. Printed by gen_lawsev.py. -/
import Derived.Test.YtemenlcigengeaaGreatDoorTq55
import Derived.Test.YtemenlcigengeaaGreatDoorTq56
import Derived.Test.YtemenlcigengeaaGreatDoorTq59
namespace Go.Proofs.YtemenlcigengeaaGreatDoor.lawSev
open Go.RowKit _root_.Go.Proofs.YtemenlcigengeaaGreatDoor.Nm
open _root_.Go.Proofs.YtemenlcigengeaaGreatDoor.Nt (Tab Tab.ext refAverage_at refTogether_at refHolm_at refShare_at boxn_cell boxn_other)
set_option maxRecDepth 100000 in
set_option maxHeartbeats 16000000 in
theorem walk (l m : List RT) (hok : ∀ r ∈ l, rtOk r) (hok2 : ∀ r ∈ m, rtOk r) (a b : Option Addr) (c e : Nat) (n d : ByteArray) (hn : n.size ≤ maxLen) (hd : d.size ≤ maxLen) (w : World) (hs : Sl w (.slice a l.length c) l.length (l.flatMap rtL)) (hs2 : Sl w (.slice b m.length e) m.length (m.flatMap rtL)) (ht : Tab w) :
    Calls Tryz.prog 4 #[.slice a l.length c, .slice b m.length e, .agg #[.string n, .string d]] w fun e w' => e = .returned (.bool true) ∧ Below w.heap.size w w' := by
  obtain ⟨an, han⟩ : ∃ z, avgN l m = z := ⟨_, rfl⟩
  obtain ⟨ad, had⟩ : ∃ z, avgD l m = z := ⟨_, rfl⟩
  obtain ⟨af, haf⟩ : ∃ z, avgF l m = z := ⟨_, rfl⟩
  have H_an := Lib.hid (And.intro han (And.intro had haf))
  clear han had haf
  obtain ⟨tn, htn⟩ : ∃ z, togN l = z := ⟨_, rfl⟩
  obtain ⟨td, htd⟩ : ∃ z, togD l = z := ⟨_, rfl⟩
  obtain ⟨tf, htf⟩ : ∃ z, allF l = z := ⟨_, rfl⟩
  have H_tn := Lib.hid (And.intro htn (And.intro htd htf))
  clear htn htd htf
  obtain ⟨rf, hrf⟩ : ∃ z, rkF l n d = z := ⟨_, rfl⟩
  have H_rf := Lib.hid hrf
  clear hrf
  obtain ⟨LH, hLH⟩ : ∃ z, holmB (vL l) (rQ n d)⁻¹ l.length = z := ⟨_, rfl⟩
  have H_LH := Lib.hid hLH
  clear hLH
  obtain ⟨LS, hLS⟩ : ∃ z, shareB (vL l) (rQ n d)⁻¹ l.length = z := ⟨_, rfl⟩
  have H_LS := Lib.hid hLS
  clear hLS
  have H := Lib.hid (And.intro (And.intro hok hok2) (And.intro (And.intro hn hd) (And.intro hs hs2)))
  clear hok hok2 hn hd hs hs2
  go_enter Tryz.func4, Tryz.ntmps4
  have HT0 := Lib.hid ht
  clear ht
  go_upto_region 1 with (fail)
  refine wp_box1 fun w1' hsz hbW hA0 => ?_
  clear hsz
  have HB_p := Lib.hid hA0
  have HW := Lib.hid hbW
  clear hbW hA0
  go_wp2_with fail
  refine (average_at l m H.out.1.1 H.out.1.2 a b c e w1' (H.out.2.2.1.ext HW.out) (H.out.2.2.2.ext HW.out)).mono ?_
  rintro e w2' ⟨rfl, hbz⟩
  rw [H_an.out.1, H_an.out.2.1, H_an.out.2.2]
  replace HB_p := Lib.hid (HB_p.out.ext hbz)
  replace HW := Lib.hid (ext_trans HW.out hbz)
  clear hbz
  go_upto_region 2 with (fail)
  refine wp_box1r fun w3' hsz hbz hC hF => ?_
  clear hsz
  have lt_p_x : w.heap.size < w2'.heap.size := HB_p.out.1
  have le_x : w.heap.size ≤ w2'.heap.size := HW.out.size
  replace HB_p := Lib.hid (HB_p.out.ext hbz)
  replace HW := Lib.hid (ext_trans HW.out hbz)
  clear hbz
  have HB_x := Lib.hid hC
  have HF_x := Lib.hid hF
  clear hC hF
  generalize w2'.heap.size = b_x at *
  go_wp2_with fail
  refine (refAverage_at l m H.out.1.1 H.out.1.2 a b c e w3' (H.out.2.2.1.ext HW.out) (H.out.2.2.2.ext HW.out) (HT0.out.ext HW.out)).mono ?_
  rintro e w4' ⟨rfl, hbz⟩
  rw [H_an.out.1, H_an.out.2.1, H_an.out.2.2]
  replace HB_p := Lib.hid (HB_p.out.ext hbz)
  replace HF_x := Lib.hid (HF_x.out.ext HB_x.out hbz)
  replace HB_x := Lib.hid (HB_x.out.ext hbz)
  replace HW := Lib.hid (ext_trans HW.out hbz)
  clear hbz
  go_upto_region 3 with (fail)
  refine wp_box1r fun w5' hsz hbz hC hF => ?_
  clear hsz
  have lt_p_y : w.heap.size < w4'.heap.size := HB_p.out.1
  have lt_x_y : b_x < w4'.heap.size := HB_x.out.1
  have le_y : w.heap.size ≤ w4'.heap.size := HW.out.size
  replace HB_p := Lib.hid (HB_p.out.ext hbz)
  replace HF_x := Lib.hid (HF_x.out.ext HB_x.out hbz)
  replace HB_x := Lib.hid (HB_x.out.ext hbz)
  replace HW := Lib.hid (ext_trans HW.out hbz)
  clear hbz
  have HB_y := Lib.hid hC
  have HF_y := Lib.hid hF
  clear hC hF
  generalize w4'.heap.size = b_y at *
  have c_x_0 : w5'.cell? ⟨b_x, 0, none⟩ = some (.string an) := HB_x.out.2 0
  have c_x_1 : w5'.cell? ⟨b_x, 1, none⟩ = some (.string ad) := HB_x.out.2 1
  have c_y_0 : w5'.cell? ⟨b_y, 0, none⟩ = some (.string an) := HB_y.out.2 0
  have c_y_1 : w5'.cell? ⟨b_y, 1, none⟩ = some (.string ad) := HB_y.out.2 1
  go_wp2_with fail
  refine (together_at l H.out.1.1 a c w5' (H.out.2.2.1.ext HW.out)).mono ?_
  rintro e w6' ⟨rfl, hbz⟩
  rw [H_tn.out.1, H_tn.out.2.1, H_tn.out.2.2]
  replace HB_p := Lib.hid (HB_p.out.ext hbz)
  replace HF_x := Lib.hid (HF_x.out.ext HB_x.out hbz)
  replace HB_x := Lib.hid (HB_x.out.ext hbz)
  replace HF_y := Lib.hid (HF_y.out.ext HB_y.out hbz)
  replace HB_y := Lib.hid (HB_y.out.ext hbz)
  replace HW := Lib.hid (ext_trans HW.out hbz)
  clear c_x_0 c_x_1 c_y_0 c_y_1
  clear hbz
  have c_x_0 : w6'.cell? ⟨b_x, 0, none⟩ = some (.string an) := HB_x.out.2 0
  have c_x_1 : w6'.cell? ⟨b_x, 1, none⟩ = some (.string ad) := HB_x.out.2 1
  have f_x_0 := HF_x.out 0
  have f_x_1 := HF_x.out 1
  go_upto_region 6 with (fail)
  obtain ⟨w7', hX⟩ : ∃ X, X = ((w6'.setCell ⟨b_x, 0, none⟩ (.string tn)).setCell ⟨b_x, 1, none⟩ (.string td)) := ⟨_, rfl⟩
  rw [← hX]
  have nB_p : Hid (Box w7' w.heap.size #[.string n, .string d]) := by rw [hX]; exact Lib.hid (boxn_other (boxn_other (HB_p.out) (Nat.ne_of_lt lt_p_x) 0 (.string tn)) (Nat.ne_of_lt lt_p_x) 1 (.string td))
  have nB_x : Hid (Box w7' b_x #[.string tn, .string td]) := by rw [hX]; exact Lib.hid (boxn_cell (boxn_cell (HB_x.out) (j := 0) (by simp) (.string tn)) (j := 1) (by simp) (.string td))
  have nF_x : Hid (Fre w7' b_x) := by rw [hX]; exact Lib.hid (fun j => by simp only [World.frozen?_setCell]; exact HF_x.out j)
  have nB_y : Hid (Box w7' b_y #[.string an, .string ad]) := by rw [hX]; exact Lib.hid (boxn_other (boxn_other (HB_y.out) (Nat.ne_of_gt lt_x_y) 0 (.string tn)) (Nat.ne_of_gt lt_x_y) 1 (.string td))
  have nF_y : Hid (Fre w7' b_y) := by rw [hX]; exact Lib.hid (fun j => by simp only [World.frozen?_setCell]; exact HF_y.out j)
  have nW : Hid (Below w.heap.size w w7') := by rw [hX]; exact Lib.hid (((HW.out).setCell (p := ⟨b_x, 0, none⟩) le_x (.string tn)).setCell (p := ⟨b_x, 1, none⟩) le_x (.string td))
  clear c_x_0 c_x_1 f_x_0 f_x_1
  clear hX HB_p HB_x HF_x HB_y HF_y HW
  have HB_p := nB_p
  have HB_x := nB_x; have HF_x := nF_x
  have HB_y := nB_y; have HF_y := nF_y
  have HW := nW
  clear nW nB_p nB_x nF_x nB_y nF_y
  go_wp2_with fail
  refine (refTogether_at l H.out.1.1 a c w7' (H.out.2.2.1.ext HW.out) (HT0.out.ext HW.out)).mono ?_
  rintro e w8' ⟨rfl, hbz⟩
  rw [H_tn.out.1, H_tn.out.2.1, H_tn.out.2.2]
  replace HB_p := Lib.hid (HB_p.out.ext hbz)
  replace HF_x := Lib.hid (HF_x.out.ext HB_x.out hbz)
  replace HB_x := Lib.hid (HB_x.out.ext hbz)
  replace HF_y := Lib.hid (HF_y.out.ext HB_y.out hbz)
  replace HB_y := Lib.hid (HB_y.out.ext hbz)
  replace HW := Lib.hid (ext_trans HW.out hbz)
  clear hbz
  have c_y_0 : w8'.cell? ⟨b_y, 0, none⟩ = some (.string an) := HB_y.out.2 0
  have c_y_1 : w8'.cell? ⟨b_y, 1, none⟩ = some (.string ad) := HB_y.out.2 1
  have f_y_0 := HF_y.out 0
  have f_y_1 := HF_y.out 1
  go_upto_region 7 with (fail)
  obtain ⟨w9', hX⟩ : ∃ X, X = ((w8'.setCell ⟨b_y, 0, none⟩ (.string tn)).setCell ⟨b_y, 1, none⟩ (.string td)) := ⟨_, rfl⟩
  rw [← hX]
  have nB_p : Hid (Box w9' w.heap.size #[.string n, .string d]) := by rw [hX]; exact Lib.hid (boxn_other (boxn_other (HB_p.out) (Nat.ne_of_lt lt_p_y) 0 (.string tn)) (Nat.ne_of_lt lt_p_y) 1 (.string td))
  have nB_x : Hid (Box w9' b_x #[.string tn, .string td]) := by rw [hX]; exact Lib.hid (boxn_other (boxn_other (HB_x.out) (Nat.ne_of_lt lt_x_y) 0 (.string tn)) (Nat.ne_of_lt lt_x_y) 1 (.string td))
  have nF_x : Hid (Fre w9' b_x) := by rw [hX]; exact Lib.hid (fun j => by simp only [World.frozen?_setCell]; exact HF_x.out j)
  have nB_y : Hid (Box w9' b_y #[.string tn, .string td]) := by rw [hX]; exact Lib.hid (boxn_cell (boxn_cell (HB_y.out) (j := 0) (by simp) (.string tn)) (j := 1) (by simp) (.string td))
  have nF_y : Hid (Fre w9' b_y) := by rw [hX]; exact Lib.hid (fun j => by simp only [World.frozen?_setCell]; exact HF_y.out j)
  have nW : Hid (Below w.heap.size w w9') := by rw [hX]; exact Lib.hid (((HW.out).setCell (p := ⟨b_y, 0, none⟩) le_y (.string tn)).setCell (p := ⟨b_y, 1, none⟩) le_y (.string td))
  clear c_y_0 c_y_1 f_y_0 f_y_1
  clear hX HB_p HB_x HF_x HB_y HF_y HW
  have HB_p := nB_p
  have HB_x := nB_x; have HF_x := nF_x
  have HB_y := nB_y; have HF_y := nF_y
  have HW := nW
  clear nW nB_p nB_x nF_x nB_y nF_y
  have c_x_0 : w9'.cell? ⟨b_x, 0, none⟩ = some (.string tn) := HB_x.out.2 0
  have c_x_1 : w9'.cell? ⟨b_x, 1, none⟩ = some (.string td) := HB_x.out.2 1
  have c_y_0 : w9'.cell? ⟨b_y, 0, none⟩ = some (.string tn) := HB_y.out.2 0
  have c_y_1 : w9'.cell? ⟨b_y, 1, none⟩ = some (.string td) := HB_y.out.2 1
  go_upto_region 9 with (fail)
  clear c_x_0 c_x_1 c_y_0 c_y_1
  have c_p_0 : w9'.cell? ⟨w.heap.size, 0, none⟩ = some (.string n) := HB_p.out.2 0
  have c_p_1 : w9'.cell? ⟨w.heap.size, 1, none⟩ = some (.string d) := HB_p.out.2 1
  go_wp2_with fail
  refine ((by have h := holm_at l H.out.1.1 a c n d H.out.2.1.1 H.out.2.1.2 w9' (H.out.2.2.1.ext HW.out); rw [H_rf.out, H_LH.out] at h; exact h : Calls _ _ _ w9' (RowsPost w9' rf LH))).mono ?_
  rintro e w10' ⟨p1a, p1n, p1c, rfl, hp1, hbz⟩
  have R_p1 := Lib.hid hp1
  clear hp1
  replace HB_p := Lib.hid (HB_p.out.ext hbz)
  replace HW := Lib.hid (ext_trans HW.out hbz)
  clear c_p_0 c_p_1
  clear hbz
  have c_p_0 : w10'.cell? ⟨w.heap.size, 0, none⟩ = some (.string n) := HB_p.out.2 0
  have c_p_1 : w10'.cell? ⟨w.heap.size, 1, none⟩ = some (.string d) := HB_p.out.2 1
  go_wp2_with fail
  refine ((by have h := refHolm_at l H.out.1.1 a c n d H.out.2.1.1 H.out.2.1.2 w10' (H.out.2.2.1.ext HW.out) (HT0.out.ext HW.out); rw [H_rf.out, H_LH.out] at h; exact h : Calls _ _ _ w10' (RowsPost w10' rf LH))).mono ?_
  rintro e w11' ⟨p2a, p2n, p2c, rfl, hp2, hbz⟩
  have R_p2 := Lib.hid hp2
  clear hp2
  replace HB_p := Lib.hid (HB_p.out.ext hbz)
  replace R_p1 := Lib.hid (R_p1.out.ext hbz)
  replace HW := Lib.hid (ext_trans HW.out hbz)
  clear c_p_0 c_p_1
  clear hbz
  go_wp2_with fail
  refine (eqRows_at R_p1.out R_p2.out).mono ?_
  rintro e w12' ⟨rfl, hbz⟩
  replace HB_p := Lib.hid (HB_p.out.ext hbz)
  replace R_p1 := Lib.hid (R_p1.out.ext hbz)
  replace R_p2 := Lib.hid (R_p2.out.ext hbz)
  replace HW := Lib.hid (ext_trans HW.out hbz)
  clear hbz
  have c_p_0 : w12'.cell? ⟨w.heap.size, 0, none⟩ = some (.string n) := HB_p.out.2 0
  have c_p_1 : w12'.cell? ⟨w.heap.size, 1, none⟩ = some (.string d) := HB_p.out.2 1
  go_wp2_with fail
  refine ((by have h := share_at l H.out.1.1 a c n d H.out.2.1.1 H.out.2.1.2 w12' (H.out.2.2.1.ext HW.out); rw [H_rf.out, H_LS.out] at h; exact h : Calls _ _ _ w12' (RowsPost w12' rf LS))).mono ?_
  rintro e w13' ⟨p3a, p3n, p3c, rfl, hp3, hbz⟩
  have R_p3 := Lib.hid hp3
  clear hp3
  replace HB_p := Lib.hid (HB_p.out.ext hbz)
  replace HW := Lib.hid (ext_trans HW.out hbz)
  clear c_p_0 c_p_1
  clear hbz
  have c_p_0 : w13'.cell? ⟨w.heap.size, 0, none⟩ = some (.string n) := HB_p.out.2 0
  have c_p_1 : w13'.cell? ⟨w.heap.size, 1, none⟩ = some (.string d) := HB_p.out.2 1
  go_wp2_with fail
  refine ((by have h := refShare_at l H.out.1.1 a c n d H.out.2.1.1 H.out.2.1.2 w13' (H.out.2.2.1.ext HW.out) (HT0.out.ext HW.out); rw [H_rf.out, H_LS.out] at h; exact h : Calls _ _ _ w13' (RowsPost w13' rf LS))).mono ?_
  rintro e w14' ⟨p4a, p4n, p4c, rfl, hp4, hbz⟩
  have R_p4 := Lib.hid hp4
  clear hp4
  replace HB_p := Lib.hid (HB_p.out.ext hbz)
  replace R_p3 := Lib.hid (R_p3.out.ext hbz)
  replace HW := Lib.hid (ext_trans HW.out hbz)
  clear c_p_0 c_p_1
  clear hbz
  go_wp2_with fail
  refine (eqRows_at R_p3.out R_p4.out).mono ?_
  rintro e w15' ⟨rfl, hbz⟩
  replace HB_p := Lib.hid (HB_p.out.ext hbz)
  replace R_p3 := Lib.hid (R_p3.out.ext hbz)
  replace R_p4 := Lib.hid (R_p4.out.ext hbz)
  replace HW := Lib.hid (ext_trans HW.out hbz)
  clear hbz
  go_wp2
  go_ret
  exact ⟨by simp, HW.out⟩
end Go.Proofs.YtemenlcigengeaaGreatDoor.lawSev
