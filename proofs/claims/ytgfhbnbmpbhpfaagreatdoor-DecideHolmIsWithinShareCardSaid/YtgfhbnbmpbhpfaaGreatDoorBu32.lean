/- readPart, checkMany of package decide; isEvidence, howMany, checkAll, checkMany of the reference. Printed by gen_sev.py. -/
import Derived.Test.YtgfhbnbmpbhpfaaGreatDoorBu31
namespace Go.Proofs.YtgfhbnbmpbhpfaaGreatDoor
open Go.RowKit
namespace Nm
set_option maxRecDepth 100000 in
set_option maxHeartbeats 8000000 in
theorem readPart_at (n d : ByteArray) (hn : n.size ≤ maxLen) (hd : d.size ≤ maxLen) (w : World) : Calls Tryz.prog 87 #[.agg #[.string n, .string d]] w (PartPost w n d) := by
  go_enter Tryz.func87, Tryz.ntmps87
  go_upto_region 1 with (fail)
  refine wp_box2r fun w1' hsz hbW hA0 hC hF => ?_
  clear hsz
  have HB_r := Lib.hid hA0
  have HB_o := Lib.hid hC
  have HF_o := Lib.hid hF
  have HW := Lib.hid hbW
  clear hbW hA0 hC hF
  have c_r_0 : w1'.cell? ⟨w.heap.size, 0, none⟩ = some (.string n) := HB_r.out.2 0
  have c_r_1 : w1'.cell? ⟨w.heap.size, 1, none⟩ = some (.string d) := HB_r.out.2 1
  go_wp2_with fail
  refine (checkRatio_at n d hn hd w1').mono ?_
  rintro e w2' ⟨rfl, hbz⟩
  replace HB_r := Lib.hid (HB_r.out.ext hbz)
  replace HF_o := Lib.hid (HF_o.out.ext HB_o.out hbz)
  replace HB_o := Lib.hid (HB_o.out.ext hbz)
  replace HW := Lib.hid (ext_trans HW.out hbz)
  clear c_r_0 c_r_1
  clear hbz
  by_cases hz : rF n d = 0
  · have hne : (rF n d != 0) = false := by simp [hz]
    have HZ := Lib.hid hz
    clear hz
    have c_r_0 : w2'.cell? ⟨w.heap.size, 0, none⟩ = some (.string n) := HB_r.out.2 0
    have c_r_1 : w2'.cell? ⟨w.heap.size, 1, none⟩ = some (.string d) := HB_r.out.2 1
    go_wp2_with fail
    refine (xratOfP_at n d hn hd HZ.out w2').mono ?_
    rintro e w3' ⟨v, rfl, hx, hbz⟩
    obtain ⟨q1, k1, q2, k2, rfl, hn1, hn2⟩ := hx.open_
    clear hx
    obtain ⟨b, hb9⟩ : ∃ b, decide ((rQ n d).num < 0) = b := ⟨_, rfl⟩
    rw [hb9]
    generalize (digs (rQ n d).num.natAbs).length = n1 at *
    generalize (digs (rQ n d).den).length = n2 at *
    have HN1 := Lib.hid hn1
    have HN2 := Lib.hid hn2
    have HB9 := Lib.hid hb9
    clear hn1 hn2 hb9
    replace HB_r := Lib.hid (HB_r.out.ext hbz)
    replace HF_o := Lib.hid (HF_o.out.ext HB_o.out hbz)
    replace HB_o := Lib.hid (HB_o.out.ext hbz)
    replace HW := Lib.hid (ext_trans HW.out hbz)
    clear c_r_0 c_r_1
    clear hbz
    go_upto_region 5 with (fail)
    refine wp_box1 fun w4' hsz hbz hC => ?_
    clear hsz
    have lt_r_x : w.heap.size < w3'.heap.size := HB_r.out.1
    have lt_o_x : (w.heap.size + 1) < w3'.heap.size := HB_o.out.1
    have le_x : w.heap.size ≤ w3'.heap.size := HW.out.size
    replace HB_r := Lib.hid (HB_r.out.ext hbz)
    replace HF_o := Lib.hid (HF_o.out.ext HB_o.out hbz)
    replace HB_o := Lib.hid (HB_o.out.ext hbz)
    replace HN1 := Lib.hid (HN1.out.ext hbz)
    replace HN2 := Lib.hid (HN2.out.ext hbz)
    replace HW := Lib.hid (ext_trans HW.out hbz)
    clear hbz
    have HB_x := Lib.hid hC
    clear hC
    generalize w3'.heap.size = b_x at *
    cases b with
    | true =>
      have HP : Hid (partF n d = 1) := Lib.hid (by unfold partF; rw [if_neg (fun h => h HZ.out), if_pos (of_decide_eq_true HB9.out)])
      have HNE : Hid ((1 : Int) ≠ 0) := Lib.hid (by decide)
      have c_x_0 : w4'.cell? ⟨b_x, 0, none⟩ = some (.bool true) := HB_x.out.2 0
      have c_x_1 : w4'.cell? ⟨b_x, 1, none⟩ = some (.slice q1 n1 k1) := HB_x.out.2 1
      have c_x_2 : w4'.cell? ⟨b_x, 2, none⟩ = some (.slice q2 n2 k2) := HB_x.out.2 2
      have c_o_0 : w4'.cell? ⟨(w.heap.size + 1), 0, none⟩ = some (.bool false) := HB_o.out.2 0
      have c_o_1 : w4'.cell? ⟨(w.heap.size + 1), 1, none⟩ = some (.slice none 0 0) := HB_o.out.2 1
      have c_o_2 : w4'.cell? ⟨(w.heap.size + 1), 2, none⟩ = some (.slice none 0 0) := HB_o.out.2 2
      have f_o_0 := HF_o.out 0
      have f_o_1 := HF_o.out 1
      have f_o_2 := HF_o.out 2
      have HR := Lib.hid (res3c (.bool false) (.slice none 0 0) (.slice none 0 0) HB_o.out HW.out (show w.heap.size ≤ (w.heap.size + 1) by omega))
      obtain ⟨hbF, z0, z1, z2⟩ := id HR.out
      clear hbF
      go_wp2
      exact bodyPost_ret (v := .tuple #[.agg #[.bool false, .slice none 0 0, .slice none 0 0], .int .i64 (1)]) (by simp [results, Tryz.results87, go_sem, z0, z1, z2]) rfl ⟨_, _, _, _, _, _, _, by rw [HP.out], (fun h => absurd h (by rw [HP.out]; exact HNE.out)), HR.out.1⟩
    | false =>
      have HP0 : Hid (partF n d = if longB n d = true then 2 else 0) := Lib.hid (by unfold partF; rw [if_neg (fun h => h HZ.out), if_neg (of_decide_eq_false HB9.out)])
      have c_r_0 : w4'.cell? ⟨w.heap.size, 0, none⟩ = some (.string n) := HB_r.out.2 0
      have c_r_1 : w4'.cell? ⟨w.heap.size, 1, none⟩ = some (.string d) := HB_r.out.2 1
      have c_x_0 : w4'.cell? ⟨b_x, 0, none⟩ = some (.bool false) := HB_x.out.2 0
      have c_x_1 : w4'.cell? ⟨b_x, 1, none⟩ = some (.slice q1 n1 k1) := HB_x.out.2 1
      have c_x_2 : w4'.cell? ⟨b_x, 2, none⟩ = some (.slice q2 n2 k2) := HB_x.out.2 2
      go_wp2_with fail
      refine (long_at n d hn hd w4').mono ?_
      rintro e w5' ⟨rfl, hbz⟩
      replace HB_r := Lib.hid (HB_r.out.ext hbz)
      replace HF_o := Lib.hid (HF_o.out.ext HB_o.out hbz)
      replace HB_o := Lib.hid (HB_o.out.ext hbz)
      replace HB_x := Lib.hid (HB_x.out.ext hbz)
      replace HN1 := Lib.hid (HN1.out.ext hbz)
      replace HN2 := Lib.hid (HN2.out.ext hbz)
      replace HW := Lib.hid (ext_trans HW.out hbz)
      clear c_r_0 c_r_1 c_x_0 c_x_1 c_x_2
      clear hbz
      by_cases hl : longB n d = true
      · have HP : Hid (partF n d = 2) := Lib.hid (by rw [HP0.out, if_pos hl])
        have HNE : Hid ((2 : Int) ≠ 0) := Lib.hid (by decide)
        rw [hl]
        clear hl
        have c_o_0 : w5'.cell? ⟨(w.heap.size + 1), 0, none⟩ = some (.bool false) := HB_o.out.2 0
        have c_o_1 : w5'.cell? ⟨(w.heap.size + 1), 1, none⟩ = some (.slice none 0 0) := HB_o.out.2 1
        have c_o_2 : w5'.cell? ⟨(w.heap.size + 1), 2, none⟩ = some (.slice none 0 0) := HB_o.out.2 2
        have f_o_0 := HF_o.out 0
        have f_o_1 := HF_o.out 1
        have f_o_2 := HF_o.out 2
        have HR := Lib.hid (res3c (.bool false) (.slice none 0 0) (.slice none 0 0) HB_o.out HW.out (show w.heap.size ≤ (w.heap.size + 1) by omega))
        obtain ⟨hbF, z0, z1, z2⟩ := id HR.out
        clear hbF
        go_wp2
        exact bodyPost_ret (v := .tuple #[.agg #[.bool false, .slice none 0 0, .slice none 0 0], .int .i64 (2)]) (by simp [results, Tryz.results87, go_sem, z0, z1, z2]) rfl ⟨_, _, _, _, _, _, _, by rw [HP.out], (fun h => absurd h (by rw [HP.out]; exact HNE.out)), HR.out.1⟩
      · have HP : Hid (partF n d = 0) := Lib.hid (by rw [HP0.out, if_neg hl])
        have hl' : longB n d = false := by simpa using hl
        rw [hl']
        clear hl hl'
        have c_x_0 : w5'.cell? ⟨b_x, 0, none⟩ = some (.bool false) := HB_x.out.2 0
        have c_x_1 : w5'.cell? ⟨b_x, 1, none⟩ = some (.slice q1 n1 k1) := HB_x.out.2 1
        have c_x_2 : w5'.cell? ⟨b_x, 2, none⟩ = some (.slice q2 n2 k2) := HB_x.out.2 2
        have c_o_0 : w5'.cell? ⟨(w.heap.size + 1), 0, none⟩ = some (.bool false) := HB_o.out.2 0
        have c_o_1 : w5'.cell? ⟨(w.heap.size + 1), 1, none⟩ = some (.slice none 0 0) := HB_o.out.2 1
        have c_o_2 : w5'.cell? ⟨(w.heap.size + 1), 2, none⟩ = some (.slice none 0 0) := HB_o.out.2 2
        have f_o_0 := HF_o.out 0
        have f_o_1 := HF_o.out 1
        have f_o_2 := HF_o.out 2
        have HR := Lib.hid (res3 false HB_o.out HN1.out HN2.out HW.out (show w.heap.size ≤ (w.heap.size + 1) by omega))
        obtain ⟨_, _, _, z0, z1, z2⟩ := id HR.out
        go_wp2
        exact bodyPost_ret (v := .tuple #[.agg #[.bool false, .slice q1 n1 k1, .slice q2 n2 k2], .int .i64 0]) (by simp [results, Tryz.results87, go_sem, z0, z1, z2]) rfl ⟨_, _, _, _, _, _, _, by rw [HP.out], (fun _ => ⟨_, _, by rw [HB9.out], HR.out.1, HR.out.2.1⟩), HR.out.2.2.1⟩
  · have HP : Hid (partF n d = rF n d) := Lib.hid (by unfold partF; rw [if_pos hz])
    have HNE : Hid (rF n d ≠ 0) := Lib.hid hz
    have hne : (rF n d != 0) = true := by simp [hz]
    clear hz
    have c_o_0 : w2'.cell? ⟨(w.heap.size + 1), 0, none⟩ = some (.bool false) := HB_o.out.2 0
    have c_o_1 : w2'.cell? ⟨(w.heap.size + 1), 1, none⟩ = some (.slice none 0 0) := HB_o.out.2 1
    have c_o_2 : w2'.cell? ⟨(w.heap.size + 1), 2, none⟩ = some (.slice none 0 0) := HB_o.out.2 2
    have f_o_0 := HF_o.out 0
    have f_o_1 := HF_o.out 1
    have f_o_2 := HF_o.out 2
    have HR := Lib.hid (res3c (.bool false) (.slice none 0 0) (.slice none 0 0) HB_o.out HW.out (show w.heap.size ≤ (w.heap.size + 1) by omega))
    obtain ⟨hbF, z0, z1, z2⟩ := id HR.out
    clear hbF
    go_wp2
    exact bodyPost_ret (v := .tuple #[.agg #[.bool false, .slice none 0 0, .slice none 0 0], .int .i64 (rF n d)]) (by simp [results, Tryz.results87, go_sem, z0, z1, z2]) rfl ⟨_, _, _, _, _, _, _, by rw [HP.out], (fun h => absurd h (by rw [HP.out]; exact HNE.out)), HR.out.1⟩
set_option maxHeartbeats 4000000 in
theorem checkManyP_at (n : Nat) (a : Option Addr) (c : Nat) (w : World) : Calls Tryz.prog 85 #[.slice a n c] w (fun e w' => e = .returned (.int .i64 (mF n)) ∧ w = w') := by
  go_enter Tryz.func85, Tryz.ntmps85
  by_cases h1 : n = 0
  · have HP : Hid (mF n = 9) := Lib.hid (by unfold mF; rw [if_pos h1])
    have h2 : ((n : Int) == 0) = true := by rw [h1]; rfl
    clear h1
    go_wp2
    exact bodyPost_ret (v := .int .i64 9) (by simp [results, Tryz.results85, go_sem]) rfl ⟨by rw [HP.out], rfl⟩
  · have h2 : ((n : Int) == 0) = false := beq_eq_false_iff_ne.2 (by omega)
    by_cases h3 : 10 < n
    · have HP : Hid (mF n = 2) := Lib.hid (by unfold mF; rw [if_neg h1, if_pos h3])
      clear h1
      go_wp2
      exact bodyPost_ret (v := .int .i64 2) (by simp [results, Tryz.results85, go_sem]) rfl ⟨by rw [HP.out], rfl⟩
    · have HP : Hid (mF n = 0) := Lib.hid (by unfold mF; rw [if_neg h1, if_neg h3])
      clear h1
      go_wp2
      exact bodyPost_ret (v := .int .i64 0) (by simp [results, Tryz.results85, go_sem]) rfl ⟨by rw [HP.out], rfl⟩
end Nm
namespace Nt
open _root_.Go.Proofs.YtgfhbnbmpbhpfaaGreatDoor.Nm (rF rQ showN showD Fits partF FPost RT rtL rtOk longB mF mF_ok aF aF_step allF missF tail_none)
set_option maxRecDepth 100000 in
set_option maxHeartbeats 8000000 in
theorem isEvidence_at (n d : ByteArray) (hn : n.size ≤ maxLen) (hd : d.size ≤ maxLen) (w : World) (ht : Tab w) : Calls Tryz.prog 93 #[.agg #[.string n, .string d]] w (FPost w (partF n d)) := by
  go_enter Tryz.func93, Tryz.ntmps93
  have HT0 := Lib.hid ht
  clear ht
  go_upto_region 1 with (fail)
  refine wp_box1 fun w1' hsz hbW hA0 => ?_
  clear hsz
  have HB_r := Lib.hid hA0
  have HW := Lib.hid hbW
  clear hbW hA0
  have c_r_0 : w1'.cell? ⟨w.heap.size, 0, none⟩ = some (.string n) := HB_r.out.2 0
  have c_r_1 : w1'.cell? ⟨w.heap.size, 1, none⟩ = some (.string d) := HB_r.out.2 1
  go_wp2_with fail
  refine (refCheck_at n d hn hd w1' (HT0.out.ext HW.out)).mono ?_
  rintro e w2' ⟨rfl, hbz⟩
  replace HB_r := Lib.hid (HB_r.out.ext hbz)
  replace HW := Lib.hid (ext_trans HW.out hbz)
  clear c_r_0 c_r_1
  clear hbz
  by_cases hz : rF n d = 0
  · have hne : (rF n d != 0) = false := by simp [hz]
    have HP0 : Hid (partF n d = if (rQ n d).num < 0 then 1 else if longB n d = true then 2 else 0) := Lib.hid (by unfold partF; rw [if_neg (fun h => h hz)])
    obtain ⟨q, hq, hrq, rfl, rfl⟩ := show_parts hz
    rw [hrq] at HP0
    have HF := Lib.hid hq
    clear hz hq hrq
    generalize partF (showN q) (showD q) = pf at *
    go_upto_region 4 with (fail)
    have c_r_0 : w2'.cell? ⟨w.heap.size, 0, none⟩ = some (.string (showN q)) := HB_r.out.2 0
    have c_r_1 : w2'.cell? ⟨w.heap.size, 1, none⟩ = some (.string (showD q)) := HB_r.out.2 1
    by_cases hneg : q.num < 0
    · have HP : Hid (pf = 1) := Lib.hid (by rw [HP0.out, if_pos hneg])
      have HL : Hid (decide (q < 0) = true) := Lib.hid (decide_eq_true (Nm.rat_neg.1 hneg))
      clear hneg
      refine Grow.wp_region_grow 3 [TP.eq (rtV q), TP.eq (rtV 0), TP.eq (.bool true)] [[], [], [0, 1]] (by kernel_rfl) (by kernel_rfl) ⟨?o0ietrue, ?o1ietrue, ?o2ietrue, trivial⟩ ?_
      case o0ietrue =>
        intro w' hb
        have c_r_0' : w'.cell? ⟨w.heap.size, 0, none⟩ = some (.string (showN q)) := (hb.cell (World.block_lt_of_cell? _ _ c_r_0)).trans c_r_0
        have c_r_1' : w'.cell? ⟨w.heap.size, 1, none⟩ = some (.string (showD q)) := (hb.cell (World.block_lt_of_cell? _ _ c_r_1)).trans c_r_1
        show wpList _ _ _ _ _ _
        go_wp2
        exact ⟨rfl, Below.refl _ _, rfl⟩
      case o1ietrue =>
        intro w' hb
        show wpList _ _ _ _ _ _
        go_wp2_with fail
        refine (whole0 w' (HT0.out.ext (ext_trans HW.out hb))).mono ?_
        rintro e wz ⟨rfl, hbz⟩
        go_wp2
        exact ⟨rfl, hbz, rfl⟩
      case o2ietrue =>
        intro w' hb v1 hv1 v2 hv2
        obtain rfl : v1 = _ := hv1
        obtain rfl : v2 = _ := hv2
        show wpList _ _ _ _ _ _
        simp only [Grow.dstOf, List.getElem?_toArray, List.getElem?_cons_succ, List.getElem?_cons_zero, Option.bind_some, Act.put, List.setIfInBounds_toArray, List.set_cons_succ, List.set_cons_zero]
        go_wp2_with fail
        refine (less_is q 0 true HL.out HF.out fits0 w' (HT0.out.ext (ext_trans HW.out hb))).mono ?_
        rintro e wz ⟨rfl, hbz⟩
        go_wp2
        exact ⟨rfl, hbz, rfl⟩
      intro w3' hbz u0 hu0 u1 hu1 u2 hu2
      obtain rfl : u0 = _ := hu0
      obtain rfl : u1 = _ := hu1
      obtain rfl : u2 = _ := hu2
      replace HB_r := Lib.hid (HB_r.out.ext hbz)
      replace HW := Lib.hid (ext_trans HW.out hbz)
      clear c_r_0 c_r_1
      clear hbz
      refine tail_none (P := Tryz.prog) (ops := #[]) ?_
      simp only [Act.put, List.setIfInBounds_toArray, List.set_cons_succ, List.set_cons_zero]
      go_wp2
      exact bodyPost_ret (v := .int .i64 (1)) (by simp [results, Tryz.results93, go_sem]) rfl ⟨by rw [HP.out], HW.out⟩
    · have HP1 : Hid (pf = if longB (showN q) (showD q) = true then 2 else 0) := Lib.hid (by rw [HP0.out, if_neg hneg])
      have HL : Hid (decide (q < 0) = false) := Lib.hid (decide_eq_false (fun h => hneg (Nm.rat_neg.2 h)))
      clear hneg
      refine Grow.wp_region_grow 3 [TP.eq (rtV q), TP.eq (rtV 0), TP.eq (.bool false)] [[], [], [0, 1]] (by kernel_rfl) (by kernel_rfl) ⟨?o0iefalse, ?o1iefalse, ?o2iefalse, trivial⟩ ?_
      case o0iefalse =>
        intro w' hb
        have c_r_0' : w'.cell? ⟨w.heap.size, 0, none⟩ = some (.string (showN q)) := (hb.cell (World.block_lt_of_cell? _ _ c_r_0)).trans c_r_0
        have c_r_1' : w'.cell? ⟨w.heap.size, 1, none⟩ = some (.string (showD q)) := (hb.cell (World.block_lt_of_cell? _ _ c_r_1)).trans c_r_1
        show wpList _ _ _ _ _ _
        go_wp2
        exact ⟨rfl, Below.refl _ _, rfl⟩
      case o1iefalse =>
        intro w' hb
        show wpList _ _ _ _ _ _
        go_wp2_with fail
        refine (whole0 w' (HT0.out.ext (ext_trans HW.out hb))).mono ?_
        rintro e wz ⟨rfl, hbz⟩
        go_wp2
        exact ⟨rfl, hbz, rfl⟩
      case o2iefalse =>
        intro w' hb v1 hv1 v2 hv2
        obtain rfl : v1 = _ := hv1
        obtain rfl : v2 = _ := hv2
        show wpList _ _ _ _ _ _
        simp only [Grow.dstOf, List.getElem?_toArray, List.getElem?_cons_succ, List.getElem?_cons_zero, Option.bind_some, Act.put, List.setIfInBounds_toArray, List.set_cons_succ, List.set_cons_zero]
        go_wp2_with fail
        refine (less_is q 0 false HL.out HF.out fits0 w' (HT0.out.ext (ext_trans HW.out hb))).mono ?_
        rintro e wz ⟨rfl, hbz⟩
        go_wp2
        exact ⟨rfl, hbz, rfl⟩
      intro w3' hbz u0 hu0 u1 hu1 u2 hu2
      obtain rfl : u0 = _ := hu0
      obtain rfl : u1 = _ := hu1
      obtain rfl : u2 = _ := hu2
      replace HB_r := Lib.hid (HB_r.out.ext hbz)
      replace HW := Lib.hid (ext_trans HW.out hbz)
      clear c_r_0 c_r_1
      clear hbz
      refine tail_none (P := Tryz.prog) (ops := #[]) ?_
      simp only [Act.put, List.setIfInBounds_toArray, List.set_cons_succ, List.set_cons_zero]
      have c_r_0 : w3'.cell? ⟨w.heap.size, 0, none⟩ = some (.string (showN q)) := HB_r.out.2 0
      have c_r_1 : w3'.cell? ⟨w.heap.size, 1, none⟩ = some (.string (showD q)) := HB_r.out.2 1
      go_wp2_with fail
      refine (isShort_at (showN q) (showD q) hn hd w3').mono ?_
      rintro e w4' ⟨rfl, hbz⟩
      replace HB_r := Lib.hid (HB_r.out.ext hbz)
      replace HW := Lib.hid (ext_trans HW.out hbz)
      clear c_r_0 c_r_1
      clear hbz
      by_cases hl : longB (showN q) (showD q) = true
      · have HP : Hid (pf = 2) := Lib.hid (by rw [HP1.out, if_pos hl])
        rw [hl]
        clear hl
        go_wp2
        exact bodyPost_ret (v := .int .i64 (2)) (by simp [results, Tryz.results93, go_sem]) rfl ⟨by rw [HP.out], HW.out⟩
      · have HP : Hid (pf = 0) := Lib.hid (by rw [HP1.out, if_neg hl])
        have hl' : longB (showN q) (showD q) = false := by simpa using hl
        rw [hl']
        clear hl hl'
        go_wp2
        exact bodyPost_ret (v := .int .i64 (0)) (by simp [results, Tryz.results93, go_sem]) rfl ⟨by rw [HP.out], HW.out⟩
  · have HP : Hid (partF n d = rF n d) := Lib.hid (by unfold partF; rw [if_pos hz])
    have hne : (rF n d != 0) = true := by simp [hz]
    clear hz
    go_wp2
    exact bodyPost_ret (v := .int .i64 (rF n d)) (by simp [results, Tryz.results93, go_sem]) rfl ⟨by rw [HP.out], HW.out⟩
set_option maxHeartbeats 4000000 in
theorem howMany_at (n : Nat) (w : World) : Calls Tryz.prog 92 #[.int .i64 (n : Int)] w (fun e w' => e = .returned (.int .i64 (mF n)) ∧ w = w') := by
  go_enter Tryz.func92, Tryz.ntmps92
  by_cases h1 : n = 0
  · have HP : Hid (mF n = 9) := Lib.hid (by unfold mF; rw [if_pos h1])
    have h2 : ((n : Int) == 0) = true := by rw [h1]; rfl
    clear h1
    go_wp2
    exact bodyPost_ret (v := .int .i64 9) (by simp [results, Tryz.results92, go_sem]) rfl ⟨by rw [HP.out], rfl⟩
  · have h2 : ((n : Int) == 0) = false := beq_eq_false_iff_ne.2 (by omega)
    by_cases h3 : 10 < n
    · have HP : Hid (mF n = 2) := Lib.hid (by unfold mF; rw [if_neg h1, if_pos h3])
      clear h1
      go_wp2
      exact bodyPost_ret (v := .int .i64 2) (by simp [results, Tryz.results92, go_sem]) rfl ⟨by rw [HP.out], rfl⟩
    · have HP : Hid (mF n = 0) := Lib.hid (by unfold mF; rw [if_neg h1, if_neg h3])
      clear h1
      go_wp2
      exact bodyPost_ret (v := .int .i64 0) (by simp [results, Tryz.results92, go_sem]) rfl ⟨by rw [HP.out], rfl⟩
set_option maxRecDepth 100000 in
set_option maxHeartbeats 8000000 in
theorem checkAll_at (l : List RT) (hok : ∀ r ∈ l, rtOk r) (a : Option Addr) (c : Nat) (w : World) (hs : Sl w (.slice a l.length c) l.length (l.flatMap rtL)) (ht : Tab w) : Calls Tryz.prog 95 #[.slice a l.length c] w (FPost w (allF l)) := by
  have HS := Lib.hid hs
  have HGS := Lib.hid hok
  clear hs hok
  go_enter Tryz.func95, Tryz.ntmps95
  have HT0 := Lib.hid ht
  clear ht
  go_wp2_with fail
  refine (howMany_at l.length w).mono ?_
  rintro e w1' ⟨rfl, hw9⟩
  have hbz : Below w.heap.size w w1' := by rw [← hw9]; exact Below.refl _ _
  clear hw9
  have HW := Lib.hid hbz
  clear hbz
  by_cases hf : mF l.length = 0
  · have hne : (mF l.length != 0) = false := by simp [hf]
    have HV : Hid (allF l = aF l) := Lib.hid (by unfold allF; rw [if_neg (fun h => h hf)])
    obtain ⟨hl1, hl10⟩ := mF_ok hf
    clear hf
    go_wp2
    go_loopw [6, 15] (fun _ i wr => ∃ k : Nat, k ≤ l.length ∧ i = .int .i64 (k : Int) ∧ Hid (aF l = aF (l.drop k)) ∧ (Below w.heap.size w wr)) (fun _ i _ => l.length - (intOf i).toNat)
    case atStart => exact ⟨0, by omega, rfl, rfl, HW.out⟩
    case round =>
      obtain ⟨k, hk, rfl, HK, q_HW⟩ := hrel
      clear HW
      have HW := Lib.hid q_HW
      clear q_HW
      generalize hX : wr = X at *
      clear hX
      by_cases hlt : k < l.length
      · have hgk := List.getElem?_eq_getElem hlt
        have hok := HGS.out _ (List.getElem_mem hlt)
        generalize l[k] = r at hgk hok
        obtain ⟨rn, rd⟩ := r
        have HST := Lib.hid (HK.out.trans (aF_step hgk))
        obtain ⟨pb, po, hp9, hcs⟩ := (HS.out.ext HW.out).elem (f := rtL) (fun _ => rfl) (by omega : 0 < 2) hgk
        have e0 := hcs 0 _ rfl
        have e1 := hcs 1 _ rfl
        rw [Nat.add_zero] at e0
        simp only at HST e0 e1
        subst hp9
        have hk0 : (0 : Int) ≤ (k : Int) := Int.natCast_nonneg _
        have hk1 : (k : Int) < (l.length : Int) := by omega
        obtain ⟨ho1, ho2⟩ := hok
        clear hcs HK hgk
        go_upto_region 7 with (fail)
        refine wp_box1 fun w2' hsz hbz hC => ?_
        clear hsz
        have le_r : w.heap.size ≤ X.heap.size := HW.out.size
        replace HW := Lib.hid (ext_trans HW.out hbz)
        clear hbz e0 e1
        have HB_r := Lib.hid hC
        clear hC
        generalize X.heap.size = b_r at *
        have c_r_0 : w2'.cell? ⟨b_r, 0, none⟩ = some (.string rn) := HB_r.out.2 0
        have c_r_1 : w2'.cell? ⟨b_r, 1, none⟩ = some (.string rd) := HB_r.out.2 1
        go_wp2_with fail
        refine (isEvidence_at rn rd ho1 ho2 w2' (HT0.out.ext HW.out)).mono ?_
        rintro e w3' ⟨rfl, hbz⟩
        replace HB_r := Lib.hid (HB_r.out.ext hbz)
        replace HW := Lib.hid (ext_trans HW.out hbz)
        clear c_r_0 c_r_1
        clear hbz
        by_cases hg : partF rn rd = 0
        · have hne2 : (partF rn rd != 0) = false := by simp [hg]
          have HN : Hid (aF l = aF (l.drop (k + 1))) := Lib.hid (HST.out.trans (if_neg (fun h => h hg)))
          clear hg HST
          go_wp2
          go_roundw
          case rel => exact ⟨k + 1, by omega, by go_num, HN, HW.out⟩
          case measure => simp [intOf]; omega
        · have hne2 : (partF rn rd != 0) = true := by simp [hg]
          replace HV : Hid (allF l = partF rn rd) := Lib.hid (HV.out.trans (HST.out.trans (if_pos hg)))
          clear hg HST
          go_wp2
          exact bodyPost_ret (v := .int .i64 (partF rn rd)) (by simp [results, Tryz.results95, go_sem]) rfl ⟨by rw [HV.out], HW.out⟩
      · replace HV : Hid (allF l = 0) := Lib.hid (by rw [HV.out, HK.out, List.drop_of_length_le (by omega)]; rfl)
        go_wp2
        exact bodyPost_ret (v := .int .i64 (0)) (by simp [results, Tryz.results95, go_sem]) rfl ⟨by rw [HV.out], HW.out⟩
  · have HV : Hid (allF l = mF l.length) := Lib.hid (by unfold allF; rw [if_pos hf])
    have hne : (mF l.length != 0) = true := by simp [hf]
    clear hf
    go_wp2
    exact bodyPost_ret (v := .int .i64 (mF l.length)) (by simp [results, Tryz.results95, go_sem]) rfl ⟨by rw [HV.out], HW.out⟩
def manyF (l : List RT) (n d : ByteArray) : Int := if allF l ≠ 0 then allF l else missF n d
set_option maxRecDepth 100000 in
set_option maxHeartbeats 8000000 in
theorem checkManyR_at (l : List RT) (hok : ∀ r ∈ l, rtOk r) (a : Option Addr) (c : Nat) (w : World) (hs : Sl w (.slice a l.length c) l.length (l.flatMap rtL)) (n d : ByteArray) (hn : n.size ≤ maxLen) (hd : d.size ≤ maxLen) (ht : Tab w) : Calls Tryz.prog 97 #[.slice a l.length c, .agg #[.string n, .string d]] w (FPost w (manyF l n d)) := by
  have HS := Lib.hid hs
  clear hs
  go_enter Tryz.func97, Tryz.ntmps97
  have HT0 := Lib.hid ht
  clear ht
  go_upto_region 1 with (fail)
  refine wp_box1 fun w1' hsz hbW hA0 => ?_
  clear hsz
  have HB_m := Lib.hid hA0
  have HW := Lib.hid hbW
  clear hbW hA0
  go_wp2_with fail
  refine (checkAll_at l hok a c w1' (HS.out.ext HW.out) (HT0.out.ext HW.out)).mono ?_
  rintro e w2' ⟨rfl, hbz⟩
  replace HB_m := Lib.hid (HB_m.out.ext hbz)
  replace HW := Lib.hid (ext_trans HW.out hbz)
  clear hbz
  by_cases hf : allF l = 0
  · have HV : Hid (manyF l n d = missF n d) := Lib.hid (by unfold manyF; rw [if_neg (fun h => h hf)])
    have hne : (allF l != 0) = false := by simp [hf]
    clear hf
    have c_m_0 : w2'.cell? ⟨w.heap.size, 0, none⟩ = some (.string n) := HB_m.out.2 0
    have c_m_1 : w2'.cell? ⟨w.heap.size, 1, none⟩ = some (.string d) := HB_m.out.2 1
    go_wp2_with fail
    refine (isMiss_at n d hn hd w2' (HT0.out.ext HW.out)).mono ?_
    rintro e w3' ⟨rfl, hbz⟩
    replace HB_m := Lib.hid (HB_m.out.ext hbz)
    replace HW := Lib.hid (ext_trans HW.out hbz)
    clear c_m_0 c_m_1
    clear hbz
    go_wp2
    exact bodyPost_ret (v := .int .i64 (missF n d)) (by simp [results, Tryz.results97, go_sem]) rfl ⟨by rw [HV.out], HW.out⟩
  · have HV : Hid (manyF l n d = allF l) := Lib.hid (by unfold manyF; rw [if_pos hf])
    have hne : (allF l != 0) = true := by simp [hf]
    clear hf
    go_wp2
    exact bodyPost_ret (v := .int .i64 (allF l)) (by simp [results, Tryz.results97, go_sem]) rfl ⟨by rw [HV.out], HW.out⟩
end Nt
end Go.Proofs.YtgfhbnbmpbhpfaaGreatDoor
