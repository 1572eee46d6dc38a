/- plus and Sum of the reference. Printed by gen_sum.py. -/
import Derived.Test.YtilolnjbpokdnaaGreatDoorBq53
import Derived.Test.YtilolnjbpokdnaaGreatDoorBq50
import Derived.Test.YtilolnjbpokdnaaGreatDoorBq49
import Derived.Test.YtilolnjbpokdnaaGreatDoorBq00
import Derived.Test.YtilolnjbpokdnaaGreatDoorBq03
import Derived.Test.YtilolnjbpokdnaaGreatDoorProg
import Derived.Test.YtilolnjbpokdnaaGreatDoorBq04
import Derived.Test.YtilolnjbpokdnaaGreatDoorBq05
import Derived.Test.YtilolnjbpokdnaaGreatDoorBq06
import Derived.Test.YtilolnjbpokdnaaGreatDoorBq07
import Derived.Test.YtilolnjbpokdnaaGreatDoorBq08
import Derived.Test.YtilolnjbpokdnaaGreatDoorBq09
import Derived.Test.YtilolnjbpokdnaaGreatDoorBq10
import Derived.Test.YtilolnjbpokdnaaGreatDoorBq11
import Derived.Test.YtilolnjbpokdnaaGreatDoorBq12
import Derived.Test.YtilolnjbpokdnaaGreatDoorBq13
import Derived.Test.YtilolnjbpokdnaaGreatDoorBq14
import Derived.Test.YtilolnjbpokdnaaGreatDoorBq15
import Derived.Test.YtilolnjbpokdnaaGreatDoorBq16
import Derived.Test.YtilolnjbpokdnaaGreatDoorBq17
import Derived.Test.YtilolnjbpokdnaaGreatDoorBq18
import Derived.Test.YtilolnjbpokdnaaGreatDoorShelf
import Derived.Test.YtilolnjbpokdnaaGreatDoorBq19
import Derived.Test.YtilolnjbpokdnaaGreatDoorBq20
import Derived.Test.YtilolnjbpokdnaaGreatDoorBq21
import Derived.Test.YtilolnjbpokdnaaGreatDoorBq22
import Derived.Test.YtilolnjbpokdnaaGreatDoorBq23
import Derived.Test.YtilolnjbpokdnaaGreatDoorBq24
import Derived.Test.YtilolnjbpokdnaaGreatDoorBq25
import Derived.Test.YtilolnjbpokdnaaGreatDoorBq26
import Derived.Test.YtilolnjbpokdnaaGreatDoorBq37
import Derived.Test.YtilolnjbpokdnaaGreatDoorBq39
namespace Go.Proofs.YtilolnjbpokdnaaGreatDoor
open Go.RowKit
namespace Nt
open _root_.Go.Proofs.YtilolnjbpokdnaaGreatDoor.Nm (showN showD Fits Ln PX pxL okX okX_iff okP okP_iff badX badX_step sumF M5 m5z m5s m5L m5L_step M5Ok M5Ok.zero M5Ok.step M5Ln M5Ok.ln Ln40.fits moC moZ sumV5 badX_all)
theorem wIn (n : Int) (w : World) : Calls Tryz.prog 75 #[.int .i64 n] w fun e w' => e = .returned (.bool (okX n)) ∧ w = w' := by
 have hk : okX n = (decide (-20000000000000000 ≤ n) && decide (n ≤ 20000000000000000)) := rfl
 by_cases h1 : -20000000000000000 ≤ n
 ·by_cases h2 : n ≤ 20000000000000000
  ·rw [hk, decide_eq_true h1, decide_eq_true h2]
   go_enter Tryz.func75, Tryz.ntmps75
   go_wp2
   go_ret
   exact ⟨rfl, rfl⟩
  ·rw [hk, decide_eq_true h1, decide_eq_false h2]
   go_enter Tryz.func75, Tryz.ntmps75
   go_wp2
   go_ret
   exact ⟨rfl, rfl⟩
 ·rw [hk, decide_eq_false h1]
  go_enter Tryz.func75, Tryz.ntmps75
  go_wp2
  go_ret
  exact ⟨rfl, rfl⟩
set_option maxRecDepth 100000 in
set_option maxHeartbeats 16000000 in
theorem refMom_at (l : List PX) (a : Option Addr) (c : Nat) (w : World) (hs : Sl w (.slice a l.length c) l.length (l.flatMap pxL)) (ht : Tab w) :
  Calls Tryz.prog 23 #[.slice a l.length c] w fun e w' => e = .returned (.tuple #[.agg (sumV5 l).toArray, .int .i64 (sumF l)]) ∧ Below w.heap.size w w' := by
 have HS := Lib.hid hs
 clear hs
 go_enter Tryz.func23, Tryz.ntmps23
 have HT0 := Lib.hid ht
 clear ht
 go_upto_region 1 with (fail)
 refine wp_row1 fun w1' hbW  hR => ?_
 have HR_o := Lib.hid hR
 have HW := Lib.hid hbW
 clear hbW hR 
 by_cases h1 : 20000 < l.length
 ·have HE1 : Hid (sumF l = 2) := Lib.hid (by unfold sumF; rw [if_pos h1])
  have HV : Hid (sumV5 l = moZ ∧ sumF l = 2) := Lib.hid ⟨by unfold sumV5; rw [if_neg (by rw [HE1.out]; decide)], HE1.out⟩
  have hl1 : (20000 : Int) < (l.length : Int) := by omega
  clear h1
  have c_o_0 : w1'.cell? ⟨w.heap.size, 0, none⟩ = some (.int .i64 0) := (HR_o.out.cell 0).trans rfl
  have f_o_0 : w1'.frozen? ⟨w.heap.size, 0, none⟩ = false := HR_o.out.fre 0
  have c_o_1 : w1'.cell? ⟨w.heap.size, 1, none⟩ = some (.string ⟨#[]⟩) := (HR_o.out.cell 1).trans rfl
  have f_o_1 : w1'.frozen? ⟨w.heap.size, 1, none⟩ = false := HR_o.out.fre 1
  have c_o_2 : w1'.cell? ⟨w.heap.size, 2, none⟩ = some (.string ⟨#[]⟩) := (HR_o.out.cell 2).trans rfl
  have f_o_2 : w1'.frozen? ⟨w.heap.size, 2, none⟩ = false := HR_o.out.fre 2
  have c_o_3 : w1'.cell? ⟨w.heap.size, 3, none⟩ = some (.string ⟨#[]⟩) := (HR_o.out.cell 3).trans rfl
  have f_o_3 : w1'.frozen? ⟨w.heap.size, 3, none⟩ = false := HR_o.out.fre 3
  have c_o_4 : w1'.cell? ⟨w.heap.size, 4, none⟩ = some (.string ⟨#[]⟩) := (HR_o.out.cell 4).trans rfl
  have f_o_4 : w1'.frozen? ⟨w.heap.size, 4, none⟩ = false := HR_o.out.fre 4
  have c_o_5 : w1'.cell? ⟨w.heap.size, 5, none⟩ = some (.string ⟨#[]⟩) := (HR_o.out.cell 5).trans rfl
  have f_o_5 : w1'.frozen? ⟨w.heap.size, 5, none⟩ = false := HR_o.out.fre 5
  have c_o_6 : w1'.cell? ⟨w.heap.size, 6, none⟩ = some (.string ⟨#[]⟩) := (HR_o.out.cell 6).trans rfl
  have f_o_6 : w1'.frozen? ⟨w.heap.size, 6, none⟩ = false := HR_o.out.fre 6
  have c_o_7 : w1'.cell? ⟨w.heap.size, 7, none⟩ = some (.string ⟨#[]⟩) := (HR_o.out.cell 7).trans rfl
  have f_o_7 : w1'.frozen? ⟨w.heap.size, 7, none⟩ = false := HR_o.out.fre 7
  have c_o_8 : w1'.cell? ⟨w.heap.size, 8, none⟩ = some (.string ⟨#[]⟩) := (HR_o.out.cell 8).trans rfl
  have f_o_8 : w1'.frozen? ⟨w.heap.size, 8, none⟩ = false := HR_o.out.fre 8
  have c_o_9 : w1'.cell? ⟨w.heap.size, 9, none⟩ = some (.string ⟨#[]⟩) := (HR_o.out.cell 9).trans rfl
  have f_o_9 : w1'.frozen? ⟨w.heap.size, 9, none⟩ = false := HR_o.out.fre 9
  have c_o_10 : w1'.cell? ⟨w.heap.size, 10, none⟩ = some (.string ⟨#[]⟩) := (HR_o.out.cell 10).trans rfl
  have f_o_10 : w1'.frozen? ⟨w.heap.size, 10, none⟩ = false := HR_o.out.fre 10
  have HRX := Lib.hid ((((((((((((HR_o.out).set 0 (.int .i64 0)).set 1 (.string ⟨#[]⟩)).set 2 (.string ⟨#[]⟩)).set 3 (.string ⟨#[]⟩)).set 4 (.string ⟨#[]⟩)).set 5 (.string ⟨#[]⟩)).set 6 (.string ⟨#[]⟩)).set 7 (.string ⟨#[]⟩)).set 8 (.string ⟨#[]⟩)).set 9 (.string ⟨#[]⟩)).set 10 (.string ⟨#[]⟩))
  have HBX := Lib.hid ((((((((((((HW.out).setCell (p := ⟨w.heap.size, 0, none⟩) (show w.heap.size ≤ w.heap.size by omega) (.int .i64 0)).setCell (p := ⟨w.heap.size, 1, none⟩) (show w.heap.size ≤ w.heap.size by omega) (.string ⟨#[]⟩)).setCell (p := ⟨w.heap.size, 2, none⟩) (show w.heap.size ≤ w.heap.size by omega) (.string ⟨#[]⟩)).setCell (p := ⟨w.heap.size, 3, none⟩) (show w.heap.size ≤ w.heap.size by omega) (.string ⟨#[]⟩)).setCell (p := ⟨w.heap.size, 4, none⟩) (show w.heap.size ≤ w.heap.size by omega) (.string ⟨#[]⟩)).setCell (p := ⟨w.heap.size, 5, none⟩) (show w.heap.size ≤ w.heap.size by omega) (.string ⟨#[]⟩)).setCell (p := ⟨w.heap.size, 6, none⟩) (show w.heap.size ≤ w.heap.size by omega) (.string ⟨#[]⟩)).setCell (p := ⟨w.heap.size, 7, none⟩) (show w.heap.size ≤ w.heap.size by omega) (.string ⟨#[]⟩)).setCell (p := ⟨w.heap.size, 8, none⟩) (show w.heap.size ≤ w.heap.size by omega) (.string ⟨#[]⟩)).setCell (p := ⟨w.heap.size, 9, none⟩) (show w.heap.size ≤ w.heap.size by omega) (.string ⟨#[]⟩)).setCell (p := ⟨w.heap.size, 10, none⟩) (show w.heap.size ≤ w.heap.size by omega) (.string ⟨#[]⟩))
  go_wp2
  refine bodyPost_ret (v := .tuple #[.agg #[.int .i64 0, .string ⟨#[]⟩, .string ⟨#[]⟩, .string ⟨#[]⟩, .string ⟨#[]⟩, .string ⟨#[]⟩, .string ⟨#[]⟩, .string ⟨#[]⟩, .string ⟨#[]⟩, .string ⟨#[]⟩, .string ⟨#[]⟩], .int .i64 2]) ?_ rfl ⟨by rw [HV.out.1, HV.out.2]; rfl, HBX.out⟩
  have hld := run_loadVar_row (P := Tryz.prog) _ _ _ 47 #[.int .i64 0, .string ⟨#[]⟩, .string ⟨#[]⟩, .string ⟨#[]⟩, .string ⟨#[]⟩, .string ⟨#[]⟩, .string ⟨#[]⟩, .string ⟨#[]⟩, .string ⟨#[]⟩, .string ⟨#[]⟩, .string ⟨#[]⟩] _ _ HRX.out Tryz.underlying47 rfl (by kernel_rfl)
  rw [results_cell_tmp rfl]
  simp [asAddr, Result.andThen, hld]
 ·have HF : Hid (sumF l = if badX l = true then 1 else 0) := Lib.hid (by unfold sumF; rw [if_neg h1])
  have hl0 : l.length ≤ 20000 := by omega
  have hl1 : ¬ (20000 : Int) < (l.length : Int) := by omega
  clear h1
  go_wp2
  clear hl1
  go_loopw [17] (fun i wr => ∃ k : Nat, k ≤ l.length ∧ i = .int .i64 (k : Int) ∧ Hid (badX l = badX (l.drop k)) ∧ (RH wr w.heap.size #[.int .i64 0, .string ⟨#[]⟩, .string ⟨#[]⟩, .string ⟨#[]⟩, .string ⟨#[]⟩, .string ⟨#[]⟩, .string ⟨#[]⟩, .string ⟨#[]⟩, .string ⟨#[]⟩, .string ⟨#[]⟩, .string ⟨#[]⟩] 47) ∧ (Below w.heap.size w wr)) (fun i _ => l.length - (intOf i).toNat)
  case atStart => exact ⟨0, by omega, rfl, rfl, HR_o.out, HW.out⟩
  case round =>
   obtain ⟨k, hk, rfl, HK, q_HR_o, q_HW⟩ := hrel
   clear HR_o HW
   have HR_o := Lib.hid q_HR_o
   have HW := Lib.hid q_HW
   clear q_HR_o q_HW
   generalize hX : wr = X at *
   clear hX
   by_cases hlt : k < l.length
   ·have hgk := List.getElem?_eq_getElem hlt
    have HPK := Lib.hid (List.getElem_mem hlt)
    have hk0 : (0 : Int) ≤ (k : Int) := Int.natCast_nonneg _
    have hk1 : (k : Int) < (l.length : Int) := by omega
    have hk3 : (k : Int).toNat = k := by omega
    have HST := Lib.hid (badX_step hlt)
    generalize l[k] = p at hgk HPK HST
    obtain ⟨px, py⟩ := p
    obtain ⟨pb, po, hp9, hcs⟩ := (HS.out.ext HW.out).elem (f := pxL) (fun _ => rfl) (by omega : 0 < 2) hgk
    have e0 : X.cell? ⟨pb, po + k * 2, none⟩ = some (.int .i64 px) := hcs 0 _ rfl
    have e1 : X.cell? ⟨pb, po + k * 2 + 1, none⟩ = some (.int .i64 py) := hcs 1 _ rfl
    clear hcs hgk HPK
    subst hp9
    have lt_HR_o_p : w.heap.size < X.heap.size := HR_o.out.lt
    go_upto_region 6 with (fail)
    refine wp_box1 fun w2' hsz hbz hC => ?_
    clear hsz
    have le_p : w.heap.size ≤ X.heap.size := HW.out.size
    replace HR_o := Lib.hid (HR_o.out.ext hbz)
    replace HW := Lib.hid (ext_trans HW.out hbz)
    clear hbz e0 e1
    have HB_p := Lib.hid hC
    clear hC
    generalize X.heap.size = b_p at *
    have c_p_0 : w2'.cell? ⟨b_p, 0, none⟩ = some (.int .i64 px) := HB_p.out.2 0
    have c_p_1 : w2'.cell? ⟨b_p, 1, none⟩ = some (.int .i64 py) := HB_p.out.2 1
    obtain ⟨bx, hbx⟩ : ∃ b, okX px = b := ⟨_, rfl⟩
    obtain ⟨by', hby⟩ : ∃ b, okX py = b := ⟨_, rfl⟩
    have HBB := Lib.hid (And.intro hbx hby)
    clear hbx hby
    go_wp2_with fail
    refine (wIn px w2').mono ?_
    rintro e w' ⟨rfl, rfl⟩
    rw [HBB.out.1]
    cases bx
    ·have HE1 : Hid (sumF l = 1) := Lib.hid (by rw [HF.out, if_pos (by rw [HK.out, HST.out, if_neg (by unfold okP; simp [HBB.out.1, HBB.out.2])])])
     have HV : Hid (sumV5 l = moZ ∧ sumF l = 1) := Lib.hid ⟨by unfold sumV5; rw [if_neg (by rw [HE1.out]; decide)], HE1.out⟩
     have c_o_0 : w2'.cell? ⟨w.heap.size, 0, none⟩ = some (.int .i64 0) := (HR_o.out.cell 0).trans rfl
     have f_o_0 : w2'.frozen? ⟨w.heap.size, 0, none⟩ = false := HR_o.out.fre 0
     have c_o_1 : w2'.cell? ⟨w.heap.size, 1, none⟩ = some (.string ⟨#[]⟩) := (HR_o.out.cell 1).trans rfl
     have f_o_1 : w2'.frozen? ⟨w.heap.size, 1, none⟩ = false := HR_o.out.fre 1
     have c_o_2 : w2'.cell? ⟨w.heap.size, 2, none⟩ = some (.string ⟨#[]⟩) := (HR_o.out.cell 2).trans rfl
     have f_o_2 : w2'.frozen? ⟨w.heap.size, 2, none⟩ = false := HR_o.out.fre 2
     have c_o_3 : w2'.cell? ⟨w.heap.size, 3, none⟩ = some (.string ⟨#[]⟩) := (HR_o.out.cell 3).trans rfl
     have f_o_3 : w2'.frozen? ⟨w.heap.size, 3, none⟩ = false := HR_o.out.fre 3
     have c_o_4 : w2'.cell? ⟨w.heap.size, 4, none⟩ = some (.string ⟨#[]⟩) := (HR_o.out.cell 4).trans rfl
     have f_o_4 : w2'.frozen? ⟨w.heap.size, 4, none⟩ = false := HR_o.out.fre 4
     have c_o_5 : w2'.cell? ⟨w.heap.size, 5, none⟩ = some (.string ⟨#[]⟩) := (HR_o.out.cell 5).trans rfl
     have f_o_5 : w2'.frozen? ⟨w.heap.size, 5, none⟩ = false := HR_o.out.fre 5
     have c_o_6 : w2'.cell? ⟨w.heap.size, 6, none⟩ = some (.string ⟨#[]⟩) := (HR_o.out.cell 6).trans rfl
     have f_o_6 : w2'.frozen? ⟨w.heap.size, 6, none⟩ = false := HR_o.out.fre 6
     have c_o_7 : w2'.cell? ⟨w.heap.size, 7, none⟩ = some (.string ⟨#[]⟩) := (HR_o.out.cell 7).trans rfl
     have f_o_7 : w2'.frozen? ⟨w.heap.size, 7, none⟩ = false := HR_o.out.fre 7
     have c_o_8 : w2'.cell? ⟨w.heap.size, 8, none⟩ = some (.string ⟨#[]⟩) := (HR_o.out.cell 8).trans rfl
     have f_o_8 : w2'.frozen? ⟨w.heap.size, 8, none⟩ = false := HR_o.out.fre 8
     have c_o_9 : w2'.cell? ⟨w.heap.size, 9, none⟩ = some (.string ⟨#[]⟩) := (HR_o.out.cell 9).trans rfl
     have f_o_9 : w2'.frozen? ⟨w.heap.size, 9, none⟩ = false := HR_o.out.fre 9
     have c_o_10 : w2'.cell? ⟨w.heap.size, 10, none⟩ = some (.string ⟨#[]⟩) := (HR_o.out.cell 10).trans rfl
     have f_o_10 : w2'.frozen? ⟨w.heap.size, 10, none⟩ = false := HR_o.out.fre 10
     have HRX := Lib.hid ((((((((((((HR_o.out).set 0 (.int .i64 0)).set 1 (.string ⟨#[]⟩)).set 2 (.string ⟨#[]⟩)).set 3 (.string ⟨#[]⟩)).set 4 (.string ⟨#[]⟩)).set 5 (.string ⟨#[]⟩)).set 6 (.string ⟨#[]⟩)).set 7 (.string ⟨#[]⟩)).set 8 (.string ⟨#[]⟩)).set 9 (.string ⟨#[]⟩)).set 10 (.string ⟨#[]⟩))
     have HBX := Lib.hid ((((((((((((HW.out).setCell (p := ⟨w.heap.size, 0, none⟩) (show w.heap.size ≤ w.heap.size by omega) (.int .i64 0)).setCell (p := ⟨w.heap.size, 1, none⟩) (show w.heap.size ≤ w.heap.size by omega) (.string ⟨#[]⟩)).setCell (p := ⟨w.heap.size, 2, none⟩) (show w.heap.size ≤ w.heap.size by omega) (.string ⟨#[]⟩)).setCell (p := ⟨w.heap.size, 3, none⟩) (show w.heap.size ≤ w.heap.size by omega) (.string ⟨#[]⟩)).setCell (p := ⟨w.heap.size, 4, none⟩) (show w.heap.size ≤ w.heap.size by omega) (.string ⟨#[]⟩)).setCell (p := ⟨w.heap.size, 5, none⟩) (show w.heap.size ≤ w.heap.size by omega) (.string ⟨#[]⟩)).setCell (p := ⟨w.heap.size, 6, none⟩) (show w.heap.size ≤ w.heap.size by omega) (.string ⟨#[]⟩)).setCell (p := ⟨w.heap.size, 7, none⟩) (show w.heap.size ≤ w.heap.size by omega) (.string ⟨#[]⟩)).setCell (p := ⟨w.heap.size, 8, none⟩) (show w.heap.size ≤ w.heap.size by omega) (.string ⟨#[]⟩)).setCell (p := ⟨w.heap.size, 9, none⟩) (show w.heap.size ≤ w.heap.size by omega) (.string ⟨#[]⟩)).setCell (p := ⟨w.heap.size, 10, none⟩) (show w.heap.size ≤ w.heap.size by omega) (.string ⟨#[]⟩))
     go_wp2
     refine bodyPost_ret (v := .tuple #[.agg #[.int .i64 0, .string ⟨#[]⟩, .string ⟨#[]⟩, .string ⟨#[]⟩, .string ⟨#[]⟩, .string ⟨#[]⟩, .string ⟨#[]⟩, .string ⟨#[]⟩, .string ⟨#[]⟩, .string ⟨#[]⟩, .string ⟨#[]⟩], .int .i64 1]) ?_ rfl ⟨by rw [HV.out.1, HV.out.2]; rfl, HBX.out⟩
     have hld := run_loadVar_row (P := Tryz.prog) _ _ _ 47 #[.int .i64 0, .string ⟨#[]⟩, .string ⟨#[]⟩, .string ⟨#[]⟩, .string ⟨#[]⟩, .string ⟨#[]⟩, .string ⟨#[]⟩, .string ⟨#[]⟩, .string ⟨#[]⟩, .string ⟨#[]⟩, .string ⟨#[]⟩] _ _ HRX.out Tryz.underlying47 rfl (by kernel_rfl)
     rw [results_cell_tmp rfl]
     simp [asAddr, Result.andThen, hld]
    ·go_wp2_with fail
     refine (wIn py w2').mono ?_
     rintro e w' ⟨rfl, rfl⟩
     rw [HBB.out.2]
     cases by'
     ·have HE1 : Hid (sumF l = 1) := Lib.hid (by rw [HF.out, if_pos (by rw [HK.out, HST.out, if_neg (by unfold okP; simp [HBB.out.1, HBB.out.2])])])
      have HV : Hid (sumV5 l = moZ ∧ sumF l = 1) := Lib.hid ⟨by unfold sumV5; rw [if_neg (by rw [HE1.out]; decide)], HE1.out⟩
      have c_o_0 : w2'.cell? ⟨w.heap.size, 0, none⟩ = some (.int .i64 0) := (HR_o.out.cell 0).trans rfl
      have f_o_0 : w2'.frozen? ⟨w.heap.size, 0, none⟩ = false := HR_o.out.fre 0
      have c_o_1 : w2'.cell? ⟨w.heap.size, 1, none⟩ = some (.string ⟨#[]⟩) := (HR_o.out.cell 1).trans rfl
      have f_o_1 : w2'.frozen? ⟨w.heap.size, 1, none⟩ = false := HR_o.out.fre 1
      have c_o_2 : w2'.cell? ⟨w.heap.size, 2, none⟩ = some (.string ⟨#[]⟩) := (HR_o.out.cell 2).trans rfl
      have f_o_2 : w2'.frozen? ⟨w.heap.size, 2, none⟩ = false := HR_o.out.fre 2
      have c_o_3 : w2'.cell? ⟨w.heap.size, 3, none⟩ = some (.string ⟨#[]⟩) := (HR_o.out.cell 3).trans rfl
      have f_o_3 : w2'.frozen? ⟨w.heap.size, 3, none⟩ = false := HR_o.out.fre 3
      have c_o_4 : w2'.cell? ⟨w.heap.size, 4, none⟩ = some (.string ⟨#[]⟩) := (HR_o.out.cell 4).trans rfl
      have f_o_4 : w2'.frozen? ⟨w.heap.size, 4, none⟩ = false := HR_o.out.fre 4
      have c_o_5 : w2'.cell? ⟨w.heap.size, 5, none⟩ = some (.string ⟨#[]⟩) := (HR_o.out.cell 5).trans rfl
      have f_o_5 : w2'.frozen? ⟨w.heap.size, 5, none⟩ = false := HR_o.out.fre 5
      have c_o_6 : w2'.cell? ⟨w.heap.size, 6, none⟩ = some (.string ⟨#[]⟩) := (HR_o.out.cell 6).trans rfl
      have f_o_6 : w2'.frozen? ⟨w.heap.size, 6, none⟩ = false := HR_o.out.fre 6
      have c_o_7 : w2'.cell? ⟨w.heap.size, 7, none⟩ = some (.string ⟨#[]⟩) := (HR_o.out.cell 7).trans rfl
      have f_o_7 : w2'.frozen? ⟨w.heap.size, 7, none⟩ = false := HR_o.out.fre 7
      have c_o_8 : w2'.cell? ⟨w.heap.size, 8, none⟩ = some (.string ⟨#[]⟩) := (HR_o.out.cell 8).trans rfl
      have f_o_8 : w2'.frozen? ⟨w.heap.size, 8, none⟩ = false := HR_o.out.fre 8
      have c_o_9 : w2'.cell? ⟨w.heap.size, 9, none⟩ = some (.string ⟨#[]⟩) := (HR_o.out.cell 9).trans rfl
      have f_o_9 : w2'.frozen? ⟨w.heap.size, 9, none⟩ = false := HR_o.out.fre 9
      have c_o_10 : w2'.cell? ⟨w.heap.size, 10, none⟩ = some (.string ⟨#[]⟩) := (HR_o.out.cell 10).trans rfl
      have f_o_10 : w2'.frozen? ⟨w.heap.size, 10, none⟩ = false := HR_o.out.fre 10
      have HRX := Lib.hid ((((((((((((HR_o.out).set 0 (.int .i64 0)).set 1 (.string ⟨#[]⟩)).set 2 (.string ⟨#[]⟩)).set 3 (.string ⟨#[]⟩)).set 4 (.string ⟨#[]⟩)).set 5 (.string ⟨#[]⟩)).set 6 (.string ⟨#[]⟩)).set 7 (.string ⟨#[]⟩)).set 8 (.string ⟨#[]⟩)).set 9 (.string ⟨#[]⟩)).set 10 (.string ⟨#[]⟩))
      have HBX := Lib.hid ((((((((((((HW.out).setCell (p := ⟨w.heap.size, 0, none⟩) (show w.heap.size ≤ w.heap.size by omega) (.int .i64 0)).setCell (p := ⟨w.heap.size, 1, none⟩) (show w.heap.size ≤ w.heap.size by omega) (.string ⟨#[]⟩)).setCell (p := ⟨w.heap.size, 2, none⟩) (show w.heap.size ≤ w.heap.size by omega) (.string ⟨#[]⟩)).setCell (p := ⟨w.heap.size, 3, none⟩) (show w.heap.size ≤ w.heap.size by omega) (.string ⟨#[]⟩)).setCell (p := ⟨w.heap.size, 4, none⟩) (show w.heap.size ≤ w.heap.size by omega) (.string ⟨#[]⟩)).setCell (p := ⟨w.heap.size, 5, none⟩) (show w.heap.size ≤ w.heap.size by omega) (.string ⟨#[]⟩)).setCell (p := ⟨w.heap.size, 6, none⟩) (show w.heap.size ≤ w.heap.size by omega) (.string ⟨#[]⟩)).setCell (p := ⟨w.heap.size, 7, none⟩) (show w.heap.size ≤ w.heap.size by omega) (.string ⟨#[]⟩)).setCell (p := ⟨w.heap.size, 8, none⟩) (show w.heap.size ≤ w.heap.size by omega) (.string ⟨#[]⟩)).setCell (p := ⟨w.heap.size, 9, none⟩) (show w.heap.size ≤ w.heap.size by omega) (.string ⟨#[]⟩)).setCell (p := ⟨w.heap.size, 10, none⟩) (show w.heap.size ≤ w.heap.size by omega) (.string ⟨#[]⟩))
      go_wp2
      refine bodyPost_ret (v := .tuple #[.agg #[.int .i64 0, .string ⟨#[]⟩, .string ⟨#[]⟩, .string ⟨#[]⟩, .string ⟨#[]⟩, .string ⟨#[]⟩, .string ⟨#[]⟩, .string ⟨#[]⟩, .string ⟨#[]⟩, .string ⟨#[]⟩, .string ⟨#[]⟩], .int .i64 1]) ?_ rfl ⟨by rw [HV.out.1, HV.out.2]; rfl, HBX.out⟩
      have hld := run_loadVar_row (P := Tryz.prog) _ _ _ 47 #[.int .i64 0, .string ⟨#[]⟩, .string ⟨#[]⟩, .string ⟨#[]⟩, .string ⟨#[]⟩, .string ⟨#[]⟩, .string ⟨#[]⟩, .string ⟨#[]⟩, .string ⟨#[]⟩, .string ⟨#[]⟩, .string ⟨#[]⟩] _ _ HRX.out Tryz.underlying47 rfl (by kernel_rfl)
      rw [results_cell_tmp rfl]
      simp [asAddr, Result.andThen, hld]
     ·have HN : Hid (badX l = badX (l.drop (k + 1))) := Lib.hid (by rw [HK.out, HST.out, if_pos (by unfold okP; simp [HBB.out.1, HBB.out.2])])
      clear HB_p
      go_wp2
      go_roundw
      case rel => exact ⟨k + 1, by omega, by go_num, HN, HR_o.out, HW.out⟩
      case measure => simp [intOf]; omega
   ·have HFB : Hid (badX l = false) := Lib.hid (by rw [HK.out, List.drop_of_length_le (show l.length ≤ k by omega)]; rfl)
    have HF0 : Hid (sumF l = 0) := Lib.hid (by rw [HF.out, if_neg (by rw [HFB.out]; decide)])
    have HAL := Lib.hid (badX_all HFB.out)
    clear HK HF
    obtain ⟨zq, hzq⟩ : ∃ z : Rat, (0 : Rat) = z := ⟨_, rfl⟩
    have HZQ := Lib.hid hzq
    clear hzq
    go_wp2_with fail
    refine ((by have h := whole0 X (HT0.out.ext HW.out); rw [HZQ.out] at h; exact h : Calls _ _ _ X (RtP X zq))).mono ?_
    rintro e w2' ⟨rfl, hbz⟩
    replace HR_o := Lib.hid (HR_o.out.ext hbz)
    replace HW := Lib.hid (ext_trans HW.out hbz)
    clear hbz
    go_wp2_with fail
    refine ((by have h := whole0 w2' (HT0.out.ext HW.out); rw [HZQ.out] at h; exact h : Calls _ _ _ w2' (RtP w2' zq))).mono ?_
    rintro e w3' ⟨rfl, hbz⟩
    replace HR_o := Lib.hid (HR_o.out.ext hbz)
    replace HW := Lib.hid (ext_trans HW.out hbz)
    clear hbz
    go_wp2_with fail
    refine ((by have h := whole0 w3' (HT0.out.ext HW.out); rw [HZQ.out] at h; exact h : Calls _ _ _ w3' (RtP w3' zq))).mono ?_
    rintro e w4' ⟨rfl, hbz⟩
    replace HR_o := Lib.hid (HR_o.out.ext hbz)
    replace HW := Lib.hid (ext_trans HW.out hbz)
    clear hbz
    go_wp2_with fail
    refine ((by have h := whole0 w4' (HT0.out.ext HW.out); rw [HZQ.out] at h; exact h : Calls _ _ _ w4' (RtP w4' zq))).mono ?_
    rintro e w5' ⟨rfl, hbz⟩
    replace HR_o := Lib.hid (HR_o.out.ext hbz)
    replace HW := Lib.hid (ext_trans HW.out hbz)
    clear hbz
    go_wp2_with fail
    refine ((by have h := whole0 w5' (HT0.out.ext HW.out); rw [HZQ.out] at h; exact h : Calls _ _ _ w5' (RtP w5' zq))).mono ?_
    rintro e w6' ⟨rfl, hbz⟩
    replace HR_o := Lib.hid (HR_o.out.ext hbz)
    replace HW := Lib.hid (ext_trans HW.out hbz)
    clear hbz
    go_upto_region 10 with (fail)
    refine wp_row1 fun w7' hbz hR => ?_
    have lt_HR_o_m : w.heap.size < w6'.heap.size := HR_o.out.lt
    have le_m : w.heap.size ≤ w6'.heap.size := HW.out.size
    replace HR_o := Lib.hid (HR_o.out.ext hbz)
    replace HW := Lib.hid (ext_trans HW.out hbz)
    clear hbz
    have HR_m := Lib.hid hR
    clear hR
    generalize w6'.heap.size = b_m at *
    have HZ : Hid (((m5z.x : Int) : Rat) = zq ∧ ((m5z.y : Int) : Rat) = zq ∧ ((m5z.xx : Int) : Rat) = zq ∧ ((m5z.yy : Int) : Rat) = zq ∧ ((m5z.xy : Int) : Rat) = zq) := Lib.hid ⟨HZQ.out, HZQ.out, HZQ.out, HZQ.out, HZQ.out⟩
    clear hk hlt
    go_wp2
    go_loopw [41] (fun i wr => ∃ (k : Nat) (m : M5) (a1 a2 a3 a4 a5 : Rat), k ≤ l.length ∧ i = .int .i64 (k : Int) ∧ Hid (m5L m (l.drop k) = m5L m5z l) ∧ Hid (M5Ok k m) ∧ Hid (((m.x : Int) : Rat) = a1 ∧ ((m.y : Int) : Rat) = a2 ∧ ((m.xx : Int) : Rat) = a3 ∧ ((m.yy : Int) : Rat) = a4 ∧ ((m.xy : Int) : Rat) = a5) ∧ (RH wr w.heap.size #[.int .i64 0, .string ⟨#[]⟩, .string ⟨#[]⟩, .string ⟨#[]⟩, .string ⟨#[]⟩, .string ⟨#[]⟩, .string ⟨#[]⟩, .string ⟨#[]⟩, .string ⟨#[]⟩, .string ⟨#[]⟩, .string ⟨#[]⟩] 47) ∧ (RH wr b_m #[.int .i64 (k : Int), .string (showN (a1)), .string (showD (a1)), .string (showN (a2)), .string (showD (a2)), .string (showN (a3)), .string (showD (a3)), .string (showN (a4)), .string (showD (a4)), .string (showN (a5)), .string (showD (a5))] 47) ∧ (Below w.heap.size w wr)) (fun i _ => l.length - (intOf i).toNat)
    case atStart => exact ⟨0, m5z, zq, zq, zq, zq, zq, by omega, rfl, rfl, M5Ok.zero, HZ.out, HR_o.out, HR_m.out, HW.out⟩
    case round =>
     obtain ⟨k, m, a1, a2, a3, a4, a5, hk, rfl, HML, HMO, HMA, q_HR_o, q_HR_m, q_HW⟩ := hrel
     clear HR_o HR_m HW
     clear HZ
     have HR_o := Lib.hid q_HR_o
     have HR_m := Lib.hid q_HR_m
     have HW := Lib.hid q_HW
     clear q_HR_o q_HR_m q_HW
     generalize hX : wr = Y at *
     clear hX
     by_cases hlt : k < l.length
     ·have hgk := List.getElem?_eq_getElem hlt
      have HPK := Lib.hid (HAL.out _ (List.getElem_mem hlt))
      have hk0 : (0 : Int) ≤ (k : Int) := Int.natCast_nonneg _
      have hk1 : (k : Int) < (l.length : Int) := by omega
      have hk3 : (k : Int).toNat = k := by omega
      have HST := Lib.hid ((m5L_step hlt m).symm.trans HML.out)
      generalize l[k] = p at hgk HPK HST
      obtain ⟨px, py⟩ := p
      obtain ⟨pb, po, hp9, hcs⟩ := (HS.out.ext HW.out).elem (f := pxL) (fun _ => rfl) (by omega : 0 < 2) hgk
      have e0 : Y.cell? ⟨pb, po + k * 2, none⟩ = some (.int .i64 px) := hcs 0 _ rfl
      have e1 : Y.cell? ⟨pb, po + k * 2 + 1, none⟩ = some (.int .i64 py) := hcs 1 _ rfl
      clear hcs hgk HML
      subst hp9
      have lt_HR_o_p : w.heap.size < Y.heap.size := HR_o.out.lt
      have lt_HR_m_p : b_m < Y.heap.size := HR_m.out.lt
      go_upto_region 13 with (fail)
      refine wp_box1 fun w8' hsz hbz hC => ?_
      clear hsz
      have le_p : w.heap.size ≤ Y.heap.size := HW.out.size
      replace HR_o := Lib.hid (HR_o.out.ext hbz)
      replace HR_m := Lib.hid (HR_m.out.ext hbz)
      replace HW := Lib.hid (ext_trans HW.out hbz)
      clear hbz e0 e1
      have HB_p := Lib.hid hC
      clear hC
      generalize Y.heap.size = b_p at *
      have HM2 := Lib.hid (HMO.out.step HPK.out)
      have HL1 := Lib.hid (HMO.out.ln (by omega))
      have HL2 := Lib.hid (HM2.out.ln (by omega))
      obtain ⟨bx1, bx2⟩ : (-20000000000000000 ≤ px ∧ px ≤ 20000000000000000) ∧ -20000000000000000 ≤ py ∧ py ≤ 20000000000000000 := okP_iff.1 HPK.out
      obtain ⟨K1, hK1⟩ : ∃ x, k + 1 = x := ⟨_, rfl⟩
      rw [hK1] at HM2 HST
      have hkw : IntKind.i64.wrap ((k : Int) + 1) = (K1 : Int) := (IntWalk.i64_in _ (by omega)).trans (by omega)
      have HKW := Lib.hid hkw
      have HK1 := Lib.hid hK1
      clear hkw hK1
      obtain ⟨x1, hx1⟩ : ∃ z : Rat, ((px : Int) : Rat) = z := ⟨_, rfl⟩
      obtain ⟨y1, hy1⟩ : ∃ z : Rat, ((py : Int) : Rat) = z := ⟨_, rfl⟩
      obtain ⟨xx, hxx⟩ : ∃ z : Rat, x1 * x1 = z := ⟨_, rfl⟩
      obtain ⟨yy, hyy⟩ : ∃ z : Rat, y1 * y1 = z := ⟨_, rfl⟩
      obtain ⟨xy, hxy⟩ : ∃ z : Rat, x1 * y1 = z := ⟨_, rfl⟩
      obtain ⟨s1, hs1⟩ : ∃ z : Rat, a1 + x1 = z := ⟨_, rfl⟩
      obtain ⟨s2, hs2⟩ : ∃ z : Rat, a2 + y1 = z := ⟨_, rfl⟩
      obtain ⟨s3, hs3⟩ : ∃ z : Rat, a3 + xx = z := ⟨_, rfl⟩
      obtain ⟨s4, hs4⟩ : ∃ z : Rat, a4 + yy = z := ⟨_, rfl⟩
      obtain ⟨s5, hs5⟩ : ∃ z : Rat, a5 + xy = z := ⟨_, rfl⟩
      obtain ⟨m', hm'⟩ : ∃ m', m5s m ⟨px, py⟩ = m' := ⟨_, rfl⟩
      have HSA : Hid (((m'.x : Int) : Rat) = s1 ∧ ((m'.y : Int) : Rat) = s2 ∧ ((m'.xx : Int) : Rat) = s3 ∧ ((m'.yy : Int) : Rat) = s4 ∧ ((m'.xy : Int) : Rat) = s5) := Lib.hid (by
       obtain ⟨g1, g2, g3, g4, g5⟩ := HMA.out
       rw [← hm', ← hs1, ← hs2, ← hs3, ← hs4, ← hs5, ← hxx, ← hyy, ← hxy, ← hx1, ← hy1, ← g1, ← g2, ← g3, ← g4, ← g5]
       simp only [m5s, Rat.intCast_add, Rat.intCast_mul, and_self])
      rw [hm'] at HM2 HL2 HST
      have HEP := Lib.hid (And.intro hs1 (And.intro hs2 (And.intro hs3 (And.intro hs4 hs5))))
      have HET := Lib.hid (And.intro hxx (And.intro hyy (And.intro hxy (And.intro hx1 hy1))))
      have HFA : Hid (Fits a1 ∧ Fits a2 ∧ Fits a3 ∧ Fits a4 ∧ Fits a5) := Lib.hid (by obtain ⟨g1, g2, g3, g4, g5⟩ := HMA.out; rw [← g1, ← g2, ← g3, ← g4, ← g5]; exact ⟨Ln40.fits HL1.out.x, Ln40.fits HL1.out.y, Ln40.fits HL1.out.xx, Ln40.fits HL1.out.yy, Ln40.fits HL1.out.xy⟩)
      have HFS : Hid (Fits s1 ∧ Fits s2 ∧ Fits s3 ∧ Fits s4 ∧ Fits s5) := Lib.hid (by obtain ⟨g1, g2, g3, g4, g5⟩ := HSA.out; rw [← g1, ← g2, ← g3, ← g4, ← g5]; exact ⟨Ln40.fits HL2.out.x, Ln40.fits HL2.out.y, Ln40.fits HL2.out.xx, Ln40.fits HL2.out.yy, Ln40.fits HL2.out.xy⟩)
      have HFX : Hid (Fits x1 ∧ Fits y1 ∧ Fits xx ∧ Fits yy ∧ Fits xy) := Lib.hid (by
       have gx : Ln 17 0 x1 := by rw [← hx1]; exact Ln.int (by omega)
       have gy : Ln 17 0 y1 := by rw [← hy1]; exact Ln.int (by omega)
       rw [← hxx, ← hyy, ← hxy]
       exact ⟨gx.fits (by omega) (by omega), gy.fits (by omega) (by omega), (gx.mul gx).fits (by omega) (by omega), (gy.mul gy).fits (by omega) (by omega), (gx.mul gy).fits (by omega) (by omega)⟩)
      clear hx1 hy1 hxx hyy hxy hs1 hs2 hs3 hs4 hs5 hm' HL1 HL2 HMO HPK
      have c_p_0 : w8'.cell? ⟨b_p, 0, none⟩ = some (.int .i64 px) := HB_p.out.2 0
      have c_p_1 : w8'.cell? ⟨b_p, 1, none⟩ = some (.int .i64 py) := HB_p.out.2 1
      refine Grow.wp_region_grow2 8 [.is (TP.eq (.pointer (some ⟨b_p, 0, none⟩))), .is (TP.eq (.int .i64 px)), .is (TP.eq (rtV x1)), .is (TP.eq (.pointer (some ⟨b_p, 1, none⟩))), .is (TP.eq (.int .i64 py)), .is (TP.eq (rtV y1)), .new #[.string ⟨#[]⟩, .string ⟨#[]⟩], .new #[.string ⟨#[]⟩, .string ⟨#[]⟩]] [[], [0], [1], [], [3], [4], [], []] (by kernel_rfl) (by kernel_rfl) ⟨?o0g, ?o1g, ?o2g, ?o3g, ?o4g, ?o5g, ?o6g, ?o7g, trivial⟩ ?_
      case o0g =>
       intro w' hb
       show wpList _ _ _ _ _ _
       go_wp2
       exact ⟨rfl, Below.refl _ _, rfl⟩
      case o1g =>
       intro w' hb v1 hv1
       obtain rfl : v1 = _ := hv1
       have c_p_0' := zzc hb c_p_0
       show wpList _ _ _ _ _ _
       simp only [Grow.dstOf, zz1, zz3, zz4, Act.put, zz5, zz6, zz7]
       go_wp2
       exact ⟨rfl, Below.refl _ _, rfl⟩
      case o2g =>
       intro w' hb v1 hv1
       obtain rfl : v1 = _ := hv1
       show wpList _ _ _ _ _ _
       simp only [Grow.dstOf, zz1, zz2, zz3, zz4, Act.put, zz5, zz6, zz7]
       go_wp2_with fail
       refine ((by have h := mWholeQ px (by omega) (by omega) w' (HT0.out.ext (ext_trans HW.out hb)); rw [HET.out.2.2.2.1] at h; exact h : Calls _ _ _ w' (RtP w' x1))).mono ?_
       rintro e wz ⟨rfl, hbz⟩
       go_wp2
       exact ⟨rfl, hbz, rfl⟩
      case o3g =>
       intro w' hb
       show wpList _ _ _ _ _ _
       go_wp2
       exact ⟨rfl, Below.refl _ _, rfl⟩
      case o4g =>
       intro w' hb v1 hv1
       obtain rfl : v1 = _ := hv1
       have c_p_1' := zzc hb c_p_1
       show wpList _ _ _ _ _ _
       simp only [Grow.dstOf, zz1, zz2, zz3, zz4, Act.put, zz5, zz6, zz7]
       go_wp2
       exact ⟨rfl, Below.refl _ _, rfl⟩
      case o5g =>
       intro w' hb v1 hv1
       obtain rfl : v1 = _ := hv1
       show wpList _ _ _ _ _ _
       simp only [Grow.dstOf, zz1, zz2, zz3, zz4, Act.put, zz5, zz6, zz7]
       go_wp2_with fail
       refine ((by have h := mWholeQ py (by omega) (by omega) w' (HT0.out.ext (ext_trans HW.out hb)); rw [HET.out.2.2.2.2] at h; exact h : Calls _ _ _ w' (RtP w' y1))).mono ?_
       rintro e wz ⟨rfl, hbz⟩
       go_wp2
       exact ⟨rfl, hbz, rfl⟩
      case o6g =>
       intro w' hb
       show wpList _ _ _ _ _ _
       go_wp2
       exact ⟨⟨_, rfl, Nat.le_refl _, Box.new _ _ _, Fre.new _ _ _⟩, ext_alloc _ _, rfl⟩
      case o7g =>
       intro w' hb
       show wpList _ _ _ _ _ _
       go_wp2
       exact ⟨⟨_, rfl, Nat.le_refl _, Box.new _ _ _, Fre.new _ _ _⟩, ext_alloc _ _, rfl⟩
      intro w9' hbz u0 hu0 u1 hu1 u2 hu2 u3 hu3 u4 hu4 u5 hu5 u6 hu6 u7 hu7 hpw
      obtain rfl : u2 = _ := hu2
      obtain rfl : u5 = _ := hu5
      have hne9 : u6 ≠ u7 := hpw 6 7 (by omega) (by omega) (by omega) rfl rfl
      have hg6 : ∃ g, u6 = .pointer (some ⟨g, 0, none⟩) ∧ w8'.heap.size ≤ g ∧ Box w9' g #[.string ⟨#[]⟩, .string ⟨#[]⟩] ∧ Fre w9' g := hu6
      have hg7 : ∃ g, u7 = .pointer (some ⟨g, 0, none⟩) ∧ w8'.heap.size ≤ g ∧ Box w9' g #[.string ⟨#[]⟩, .string ⟨#[]⟩] ∧ Fre w9' g := hu7
      clear hpw hu0 hu1 hu3 hu4 hu6 hu7
      obtain ⟨b_x, rfl, hgU, hXU, hFU⟩ := hg6
      obtain ⟨b_y, rfl, hgV, hXV, hFV⟩ := hg7
      have hne : b_x ≠ b_y := fun e => hne9 (by rw [e])
      clear hne9
      have lt_p_x : b_p < b_x := Nat.lt_of_lt_of_le HB_p.out.1 hgU
      have lt_HR_o_x : w.heap.size < b_x := Nat.lt_of_lt_of_le HR_o.out.lt hgU
      have lt_HR_m_x : b_m < b_x := Nat.lt_of_lt_of_le HR_m.out.lt hgU
      have le_x : w.heap.size ≤ b_x := Nat.le_trans HW.out.size hgU
      have lt_p_y : b_p < b_y := Nat.lt_of_lt_of_le HB_p.out.1 hgV
      have lt_HR_o_y : w.heap.size < b_y := Nat.lt_of_lt_of_le HR_o.out.lt hgV
      have lt_HR_m_y : b_m < b_y := Nat.lt_of_lt_of_le HR_m.out.lt hgV
      have le_y : w.heap.size ≤ b_y := Nat.le_trans HW.out.size hgV
      clear hgU hgV
      replace HB_p := Lib.hid (HB_p.out.ext hbz)
      replace HR_o := Lib.hid (HR_o.out.ext hbz)
      replace HR_m := Lib.hid (HR_m.out.ext hbz)
      replace HW := Lib.hid (ext_trans HW.out hbz)
      clear c_p_0 c_p_1
      clear hbz
      have HB_x := Lib.hid hXU
      have HF_x := Lib.hid hFU
      have HB_y := Lib.hid hXV
      have HF_y := Lib.hid hFV
      clear hXU hFU hXV hFV
      clear HB_p
      show wpList _ _ _ _ _ _
      simp only [Act.put, zz5, zz6, zz7]
      have c_x_0 : w9'.cell? ⟨b_x, 0, none⟩ = some (.string ⟨#[]⟩) := HB_x.out.2 0
      have c_x_1 : w9'.cell? ⟨b_x, 1, none⟩ = some (.string ⟨#[]⟩) := HB_x.out.2 1
      have c_y_0 : w9'.cell? ⟨b_y, 0, none⟩ = some (.string ⟨#[]⟩) := HB_y.out.2 0
      have c_y_1 : w9'.cell? ⟨b_y, 1, none⟩ = some (.string ⟨#[]⟩) := HB_y.out.2 1
      have f_x_0 := HF_x.out 0
      have f_x_1 := HF_x.out 1
      have f_y_0 := HF_y.out 0
      have f_y_1 := HF_y.out 1
      go_upto_region 14 with (fail)
      obtain ⟨w10', hX⟩ : ∃ X, X = ((((w9'.setCell ⟨b_x, 0, none⟩ (.string (showN x1))).setCell ⟨b_x, 1, none⟩ (.string (showD x1))).setCell ⟨b_y, 0, none⟩ (.string (showN y1))).setCell ⟨b_y, 1, none⟩ (.string (showD y1))) := ⟨_, rfl⟩
      rw [← hX]
      have nB_x : Hid (Box w10' b_x #[.string (showN x1), .string (showD x1)]) := by rw [hX]; exact Lib.hid (boxn_other (boxn_other (boxn_cell (boxn_cell (HB_x.out) (j := 0) (by simp) (.string (showN x1))) (j := 1) (by simp) (.string (showD x1))) (show b_x ≠ b_y by omega) (0) (.string (showN y1))) (show b_x ≠ b_y by omega) (1) (.string (showD y1)))
      have nF_x : Hid (Fre w10' b_x) := by rw [hX]; exact Lib.hid (fun j => by simp only [World.frozen?_setCell]; exact HF_x.out j)
      have nB_y : Hid (Box w10' b_y #[.string (showN y1), .string (showD y1)]) := by rw [hX]; exact Lib.hid (boxn_cell (boxn_cell (boxn_other (boxn_other (HB_y.out) (show b_y ≠ b_x by omega) (0) (.string (showN x1))) (show b_y ≠ b_x by omega) (1) (.string (showD x1))) (j := 0) (by simp) (.string (showN y1))) (j := 1) (by simp) (.string (showD y1)))
      have nF_y : Hid (Fre w10' b_y) := by rw [hX]; exact Lib.hid (fun j => by simp only [World.frozen?_setCell]; exact HF_y.out j)
      have n_HR_o : Hid (RH w10' w.heap.size #[.int .i64 0, .string ⟨#[]⟩, .string ⟨#[]⟩, .string ⟨#[]⟩, .string ⟨#[]⟩, .string ⟨#[]⟩, .string ⟨#[]⟩, .string ⟨#[]⟩, .string ⟨#[]⟩, .string ⟨#[]⟩, .string ⟨#[]⟩] 47) := by rw [hX]; exact Lib.hid (((((HR_o.out).other (p := ⟨b_x, 0, none⟩) (show w.heap.size ≠ b_x by omega) (.string (showN x1))).other (p := ⟨b_x, 1, none⟩) (show w.heap.size ≠ b_x by omega) (.string (showD x1))).other (p := ⟨b_y, 0, none⟩) (show w.heap.size ≠ b_y by omega) (.string (showN y1))).other (p := ⟨b_y, 1, none⟩) (show w.heap.size ≠ b_y by omega) (.string (showD y1)))
      have n_HR_m : Hid (RH w10' b_m #[.int .i64 (k : Int), .string (showN (a1)), .string (showD (a1)), .string (showN (a2)), .string (showD (a2)), .string (showN (a3)), .string (showD (a3)), .string (showN (a4)), .string (showD (a4)), .string (showN (a5)), .string (showD (a5))] 47) := by rw [hX]; exact Lib.hid (((((HR_m.out).other (p := ⟨b_x, 0, none⟩) (show b_m ≠ b_x by omega) (.string (showN x1))).other (p := ⟨b_x, 1, none⟩) (show b_m ≠ b_x by omega) (.string (showD x1))).other (p := ⟨b_y, 0, none⟩) (show b_m ≠ b_y by omega) (.string (showN y1))).other (p := ⟨b_y, 1, none⟩) (show b_m ≠ b_y by omega) (.string (showD y1)))
      have nW : Hid (Below w.heap.size w w10') := by rw [hX]; exact Lib.hid (((((HW.out).setCell (p := ⟨b_x, 0, none⟩) (show w.heap.size ≤ b_x by omega) (.string (showN x1))).setCell (p := ⟨b_x, 1, none⟩) (show w.heap.size ≤ b_x by omega) (.string (showD x1))).setCell (p := ⟨b_y, 0, none⟩) (show w.heap.size ≤ b_y by omega) (.string (showN y1))).setCell (p := ⟨b_y, 1, none⟩) (show w.heap.size ≤ b_y by omega) (.string (showD y1)))
      clear c_x_0 c_x_1 c_y_0 c_y_1 f_x_0 f_x_1 f_y_0 f_y_1
      clear hX HB_x HF_x HB_y HF_y HW HR_o HR_m
      have HB_x := nB_x; clear nB_x; have HF_x := nF_x; clear nF_x
      have HB_y := nB_y; clear nB_y; have HF_y := nF_y; clear nF_y
      have HR_o := n_HR_o; clear n_HR_o
      have HR_m := n_HR_m; clear n_HR_m
      have HW := nW; clear nW
      obtain ⟨C, hC⟩ : ∃ C : Array Value, #[.int .i64 (K1 : Int), .string (showN (s1)), .string (showD (s1)), .string (showN (s2)), .string (showD (s2)), .string (showN (s3)), .string (showD (s3)), .string (showN (s4)), .string (showD (s4)), .string (showN (s5)), .string (showD (s5))] = C := ⟨_, rfl⟩
      have HC := Lib.hid hC
      clear hC
      have c_x_0 : w10'.cell? ⟨b_x, 0, none⟩ = some (.string (showN x1)) := HB_x.out.2 0
      have c_x_1 : w10'.cell? ⟨b_x, 1, none⟩ = some (.string (showD x1)) := HB_x.out.2 1
      have c_y_0 : w10'.cell? ⟨b_y, 0, none⟩ = some (.string (showN y1)) := HB_y.out.2 0
      have c_y_1 : w10'.cell? ⟨b_y, 1, none⟩ = some (.string (showD y1)) := HB_y.out.2 1
      have c_m_0 : w10'.cell? ⟨b_m, 0, none⟩ = some (.int .i64 (k : Int)) := (HR_m.out.cell 0).trans rfl
      have c_m_1 : w10'.cell? ⟨b_m, 1, none⟩ = some (.string (showN (a1))) := (HR_m.out.cell 1).trans rfl
      have c_m_2 : w10'.cell? ⟨b_m, 2, none⟩ = some (.string (showD (a1))) := (HR_m.out.cell 2).trans rfl
      have c_m_3 : w10'.cell? ⟨b_m, 3, none⟩ = some (.string (showN (a2))) := (HR_m.out.cell 3).trans rfl
      have c_m_4 : w10'.cell? ⟨b_m, 4, none⟩ = some (.string (showD (a2))) := (HR_m.out.cell 4).trans rfl
      have c_m_5 : w10'.cell? ⟨b_m, 5, none⟩ = some (.string (showN (a3))) := (HR_m.out.cell 5).trans rfl
      have c_m_6 : w10'.cell? ⟨b_m, 6, none⟩ = some (.string (showD (a3))) := (HR_m.out.cell 6).trans rfl
      have c_m_7 : w10'.cell? ⟨b_m, 7, none⟩ = some (.string (showN (a4))) := (HR_m.out.cell 7).trans rfl
      have c_m_8 : w10'.cell? ⟨b_m, 8, none⟩ = some (.string (showD (a4))) := (HR_m.out.cell 8).trans rfl
      have c_m_9 : w10'.cell? ⟨b_m, 9, none⟩ = some (.string (showN (a5))) := (HR_m.out.cell 9).trans rfl
      have c_m_10 : w10'.cell? ⟨b_m, 10, none⟩ = some (.string (showD (a5))) := (HR_m.out.cell 10).trans rfl
      refine Grow.wp_region_grow 14 [TP.eq (.agg #[.int .i64 (k : Int), .string (showN (a1)), .string (showD (a1)), .string (showN (a2)), .string (showD (a2)), .string (showN (a3)), .string (showD (a3)), .string (showN (a4)), .string (showD (a4)), .string (showN (a5)), .string (showD (a5))]), TP.eq (rtV x1), TP.eq (rtV y1), TP.eq (rtV x1), TP.eq (rtV x1), TP.eq (rtV xx), TP.eq (rtV y1), TP.eq (rtV y1), TP.eq (rtV yy), TP.eq (rtV x1), TP.eq (rtV y1), TP.eq (rtV xy), TP.eq (.agg #[.int .i64 1, .string (showN (x1)), .string (showD (x1)), .string (showN (y1)), .string (showD (y1)), .string (showN (xx)), .string (showD (xx)), .string (showN (yy)), .string (showD (yy)), .string (showN (xy)), .string (showD (xy))]), TP.eq (.agg C)] [[], [], [], [], [], [3, 4], [], [], [6, 7], [], [], [9, 10], [1, 2, 5, 8, 11], [0, 12]] (by kernel_rfl) (by kernel_rfl) ⟨?o0h, ?o1h, ?o2h, ?o3h, ?o4h, ?o5h, ?o6h, ?o7h, ?o8h, ?o9h, ?o10h, ?o11h, ?o12h, ?o13h, trivial⟩ ?_
      case o0h =>
       intro w' hb
       have c_m_0' := zzc hb c_m_0
       have c_m_1' := zzc hb c_m_1
       have c_m_2' := zzc hb c_m_2
       have c_m_3' := zzc hb c_m_3
       have c_m_4' := zzc hb c_m_4
       have c_m_5' := zzc hb c_m_5
       have c_m_6' := zzc hb c_m_6
       have c_m_7' := zzc hb c_m_7
       have c_m_8' := zzc hb c_m_8
       have c_m_9' := zzc hb c_m_9
       have c_m_10' := zzc hb c_m_10
       show wpList _ _ _ _ _ _
       go_wp2
       exact ⟨rfl, Below.refl _ _, rfl⟩
      case o1h =>
       intro w' hb
       have c_x_0' := zzc hb c_x_0
       have c_x_1' := zzc hb c_x_1
       show wpList _ _ _ _ _ _
       go_wp2
       exact ⟨rfl, Below.refl _ _, rfl⟩
      case o2h =>
       intro w' hb
       have c_y_0' := zzc hb c_y_0
       have c_y_1' := zzc hb c_y_1
       show wpList _ _ _ _ _ _
       go_wp2
       exact ⟨rfl, Below.refl _ _, rfl⟩
      case o3h =>
       intro w' hb
       have c_x_0' := zzc hb c_x_0
       have c_x_1' := zzc hb c_x_1
       show wpList _ _ _ _ _ _
       go_wp2
       exact ⟨rfl, Below.refl _ _, rfl⟩
      case o4h =>
       intro w' hb
       have c_x_0' := zzc hb c_x_0
       have c_x_1' := zzc hb c_x_1
       show wpList _ _ _ _ _ _
       go_wp2
       exact ⟨rfl, Below.refl _ _, rfl⟩
      case o5h =>
       intro w' hb v1 hv1 v2 hv2
       obtain rfl : v1 = _ := hv1
       obtain rfl : v2 = _ := hv2
       show wpList _ _ _ _ _ _
       simp only [Grow.dstOf, zz1, zz2, zz3, zz4, Act.put, zz5, zz6, zz7]
       go_wp2_with fail
       refine (times_is x1 x1 xx HET.out.1 HFX.out.1 HFX.out.1 HFX.out.2.2.1 w' (HT0.out.ext (ext_trans HW.out hb))).mono ?_
       rintro e wz ⟨rfl, hbz⟩
       go_wp2
       exact ⟨rfl, hbz, rfl⟩
      case o6h =>
       intro w' hb
       have c_y_0' := zzc hb c_y_0
       have c_y_1' := zzc hb c_y_1
       show wpList _ _ _ _ _ _
       go_wp2
       exact ⟨rfl, Below.refl _ _, rfl⟩
      case o7h =>
       intro w' hb
       have c_y_0' := zzc hb c_y_0
       have c_y_1' := zzc hb c_y_1
       show wpList _ _ _ _ _ _
       go_wp2
       exact ⟨rfl, Below.refl _ _, rfl⟩
      case o8h =>
       intro w' hb v1 hv1 v2 hv2
       obtain rfl : v1 = _ := hv1
       obtain rfl : v2 = _ := hv2
       show wpList _ _ _ _ _ _
       simp only [Grow.dstOf, zz1, zz2, zz3, zz4, Act.put, zz5, zz6, zz7]
       go_wp2_with fail
       refine (times_is y1 y1 yy HET.out.2.1 HFX.out.2.1 HFX.out.2.1 HFX.out.2.2.2.1 w' (HT0.out.ext (ext_trans HW.out hb))).mono ?_
       rintro e wz ⟨rfl, hbz⟩
       go_wp2
       exact ⟨rfl, hbz, rfl⟩
      case o9h =>
       intro w' hb
       have c_x_0' := zzc hb c_x_0
       have c_x_1' := zzc hb c_x_1
       show wpList _ _ _ _ _ _
       go_wp2
       exact ⟨rfl, Below.refl _ _, rfl⟩
      case o10h =>
       intro w' hb
       have c_y_0' := zzc hb c_y_0
       have c_y_1' := zzc hb c_y_1
       show wpList _ _ _ _ _ _
       go_wp2
       exact ⟨rfl, Below.refl _ _, rfl⟩
      case o11h =>
       intro w' hb v1 hv1 v2 hv2
       obtain rfl : v1 = _ := hv1
       obtain rfl : v2 = _ := hv2
       show wpList _ _ _ _ _ _
       simp only [Grow.dstOf, zz1, zz2, zz3, zz4, Act.put, zz5, zz6, zz7]
       go_wp2_with fail
       refine (times_is x1 y1 xy HET.out.2.2.1 HFX.out.1 HFX.out.2.1 HFX.out.2.2.2.2 w' (HT0.out.ext (ext_trans HW.out hb))).mono ?_
       rintro e wz ⟨rfl, hbz⟩
       go_wp2
       exact ⟨rfl, hbz, rfl⟩
      case o12h =>
       intro w' hb v1 hv1 v2 hv2 v3 hv3 v4 hv4 v5 hv5
       obtain rfl : v1 = _ := hv1
       obtain rfl : v2 = _ := hv2
       obtain rfl : v3 = _ := hv3
       obtain rfl : v4 = _ := hv4
       obtain rfl : v5 = _ := hv5
       show wpList _ _ _ _ _ _
       simp only [Grow.dstOf, zz1, zz2, zz3, zz4, Act.put, zz5, zz6, zz7]
       go_wp2
       exact ⟨rfl, Below.refl _ _, rfl⟩
      case o13h =>
       intro w' hb v1 hv1 v2 hv2
       obtain rfl : v1 = _ := hv1
       obtain rfl : v2 = _ := hv2
       show wpList _ _ _ _ _ _
       simp only [Grow.dstOf, zz1, zz2, zz3, zz4, Act.put, zz5, zz6, zz7]
       go_wp2_with fail
       refine ((by have h := refPlus_at (k : Int) 1 (K1 : Int) HKW.out a1 a2 a3 a4 a5 x1 y1 xx yy xy s1 s2 s3 s4 s5 HEP.out HFA.out HFX.out HFS.out w' (HT0.out.ext (ext_trans HW.out hb)); rw [HC.out] at h; exact h : Calls _ _ _ w' (fun e w'' => e = .returned (.agg C) ∧ Below w'.heap.size w' w''))).mono ?_
       rintro e wz ⟨rfl, hbz⟩
       go_wp2
       exact ⟨rfl, hbz, rfl⟩
      intro w11' hbz u0 hu0 u1 hu1 u2 hu2 u3 hu3 u4 hu4 u5 hu5 u6 hu6 u7 hu7 u8 hu8 u9 hu9 u10 hu10 u11 hu11 u12 hu12 u13 hu13
      obtain rfl : u13 = _ := hu13
      clear hu0 hu1 hu2 hu3 hu4 hu5 hu6 hu7 hu8 hu9 hu10 hu11 hu12
      replace HF_x := Lib.hid (HF_x.out.ext HB_x.out hbz)
      replace HB_x := Lib.hid (HB_x.out.ext hbz)
      replace HF_y := Lib.hid (HF_y.out.ext HB_y.out hbz)
      replace HB_y := Lib.hid (HB_y.out.ext hbz)
      replace HR_o := Lib.hid (HR_o.out.ext hbz)
      replace HR_m := Lib.hid (HR_m.out.ext hbz)
      replace HW := Lib.hid (ext_trans HW.out hbz)
      clear c_x_0 c_x_1 c_y_0 c_y_1 c_m_0 c_m_1 c_m_2 c_m_3 c_m_4 c_m_5 c_m_6 c_m_7 c_m_8 c_m_9 c_m_10
      clear hbz
      show wpList _ _ _ _ _ _
      simp only [Act.put, zz5, zz6, zz7]
      clear HB_x HF_x
      clear HB_y HF_y
      have hi : (Tryz.prog.info? 47).map (·.size) = some C.size := by rw [← HC.out]; exact (by kernel_rfl : (Tryz.prog.info? 47).map (·.size) = some 11)
      have hsz : C.size = 11 := by rw [← HC.out]; rfl
      have hsc := store_cells (P := Tryz.prog) (ty := 47) HR_m.out hi (by rw [← HC.out]; rfl) (by rw [← HC.out]; simp [Value.oneCell'])
      go_upto_region 15 with (fail)
      clear hsc hsz hi
      obtain ⟨w12', hX⟩ : ∃ X, X = w11'.setRow b_m C := ⟨_, rfl⟩
      rw [← hX]
      have n_HR_o : Hid (RH w12' w.heap.size #[.int .i64 0, .string ⟨#[]⟩, .string ⟨#[]⟩, .string ⟨#[]⟩, .string ⟨#[]⟩, .string ⟨#[]⟩, .string ⟨#[]⟩, .string ⟨#[]⟩, .string ⟨#[]⟩, .string ⟨#[]⟩, .string ⟨#[]⟩] 47) := by rw [hX]; exact Lib.hid (HR_o.out.row_other (show w.heap.size ≠ b_m by omega) _)
      have n_HR_m : Hid (RH w12' b_m #[.int .i64 (K1 : Int), .string (showN (s1)), .string (showD (s1)), .string (showN (s2)), .string (showD (s2)), .string (showN (s3)), .string (showD (s3)), .string (showN (s4)), .string (showD (s4)), .string (showN (s5)), .string (showD (s5))] 47) := by rw [hX]; exact Lib.hid (by rw [HC.out]; exact HR_m.out.row _)
      have nW : Hid (Below w.heap.size w w12') := by rw [hX]; exact Lib.hid (below_setRow HW.out (show w.heap.size ≤ b_m by omega) _)
      clear hX  HW HR_o HR_m
      have HR_o := n_HR_o; clear n_HR_o
      have HR_m := n_HR_m; clear n_HR_m
      have HW := nW; clear nW
      go_wp2
      go_roundw
      case rel => exact ⟨K1, m', s1, s2, s3, s4, s5, by have := HK1.out; omega, congrArg (Value.int .i64) (by have := HK1.out; omega), HST, HM2, HSA, HR_o.out, HR_m.out, HW.out⟩
      case measure => simp [intOf]; omega
     ·have hkl : k = l.length := by omega
      have HV : Hid (sumV5 l = [.int .i64 (k : Int), .string (showN (a1)), .string (showD (a1)), .string (showN (a2)), .string (showD (a2)), .string (showN (a3)), .string (showD (a3)), .string (showN (a4)), .string (showD (a4)), .string (showN (a5)), .string (showD (a5))] ∧ sumF l = 0) := Lib.hid ⟨by
       rw [show sumV5 l = moC (l.length : Int) (m5L m5z l) from if_pos HF0.out, ← HML.out, List.drop_of_length_le (show l.length ≤ k by omega), ← hkl]
       obtain ⟨g1, g2, g3, g4, g5⟩ := HMA.out
       show moC (k : Int) m = _
       unfold moC
       rw [g1, g2, g3, g4, g5], HF0.out⟩
      clear hkl
      obtain ⟨C, hC⟩ : ∃ C : Array Value, #[.int .i64 (k : Int), .string (showN (a1)), .string (showD (a1)), .string (showN (a2)), .string (showD (a2)), .string (showN (a3)), .string (showD (a3)), .string (showN (a4)), .string (showD (a4)), .string (showN (a5)), .string (showD (a5))] = C := ⟨_, rfl⟩
      have HC := Lib.hid hC
      clear hC
      have HRM : Hid (RH Y b_m C 47) := Lib.hid (by rw [← HC.out]; exact HR_m.out)
      have hi0 : (Tryz.prog.info? 47).map (·.size) = some C.size := by rw [← HC.out]; exact (by kernel_rfl : (Tryz.prog.info? 47).map (·.size) = some 11)
      have hi : (Tryz.prog.info? 47).map (·.size) = some C.size := by rw [← HC.out]; exact (by kernel_rfl : (Tryz.prog.info? 47).map (·.size) = some 11)
      have hsz : C.size = 11 := by rw [← HC.out]; rfl
      have hsc := store_cells (P := Tryz.prog) (ty := 47) HR_o.out hi (by rw [← HC.out]; rfl) (by rw [← HC.out]; simp [Value.oneCell'])
      have hbw := below_setRow HW.out (show w.heap.size ≤ w.heap.size by omega) C
      have HFIN := Lib.hid (And.intro (HR_o.out.row C) (And.intro hi hbw))
      clear hi hbw
      go_wp2_with (refine wpList_load_row rfl _ _ rfl b_m rfl _ C _ _ HRM.out Tryz.underlying47 rfl hi0 ?_)
      refine bodyPost_ret (v := .tuple #[.agg C, .int .i64 0]) ?_ rfl ⟨by rw [HV.out.1, HV.out.2, ← HC.out], HFIN.out.2.2⟩
      have hld := run_loadVar_row _ _ _ 47 _ _ _ HFIN.out.1 Tryz.underlying47 rfl HFIN.out.2.1
      rw [results_cell_tmp rfl]
      simp [asAddr, Result.andThen, hld]
end Nt
end Go.Proofs.YtilolnjbpokdnaaGreatDoor
