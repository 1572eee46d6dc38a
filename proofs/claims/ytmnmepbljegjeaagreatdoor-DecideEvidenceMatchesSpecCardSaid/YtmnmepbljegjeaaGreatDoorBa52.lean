/- Line of the reference: the program's terms. Printed by gen_rline.py. -/
import Derived.Test.YtmnmepbljegjeaaGreatDoorBa39
import Derived.Test.YtmnmepbljegjeaaGreatDoorBa69
namespace Go.Proofs.YtmnmepbljegjeaaGreatDoor
open Go.RowKit
namespace Nt
open _root_.Go.Proofs.YtmnmepbljegjeaaGreatDoor.Nm (showN showD Fits show_size rQ lnFind lnDec lnFrom lnFrom_le lnF lnO lnN lnK lnFind_step lnFind_hit testF test_ok evR evR_ln Ln)
open _root_.Go.Proofs.YtmnmepbljegjeaaGreatDoor.lawLine (miss_parts dec_enough)
set_option maxRecDepth 100000 in
set_option maxHeartbeats 16000000 in
theorem refLine_at (d k : Int) (n m : ByteArray) (hn : n.size ≤ maxLen) (hm : m.size ≤ maxLen) (p : Int) (w : World) (ht : Tab w) : Calls Tryz.prog 43 #[.agg #[.int .i64 d, .int .i64 k, .string n, .string m], .int .i64 p] w (LinePost w (lnO d k n m p) (lnF d k n m p)) := by
  go_enter Tryz.func43, Tryz.ntmps43
  have HT0 := Lib.hid ht
  clear ht
  go_upto_region 1 with (fail)
  refine wp_box1 fun w1' hsz hbW hA0 => ?_
  clear hsz
  have HB_t := Lib.hid hA0
  have HW := Lib.hid hbW
  clear hbW hA0
  have c_t_0 : w1'.cell? ⟨w.heap.size, 0, none⟩ = some (.int .i64 d) := HB_t.out.2 0
  have c_t_1 : w1'.cell? ⟨w.heap.size, 1, none⟩ = some (.int .i64 k) := HB_t.out.2 1
  have c_t_2 : w1'.cell? ⟨w.heap.size, 2, none⟩ = some (.string n) := HB_t.out.2 2
  have c_t_3 : w1'.cell? ⟨w.heap.size, 3, none⟩ = some (.string m) := HB_t.out.2 3
  go_wp2_with fail
  refine (checkTest_at d k n m hn hm w1' (HT0.out.ext HW.out)).mono ?_
  rintro e w2' ⟨rfl, hbz⟩
  replace HB_t := Lib.hid (HB_t.out.ext hbz)
  replace HW := Lib.hid (ext_trans HW.out hbz)
  clear c_t_0 c_t_1 c_t_2 c_t_3
  clear hbz
  by_cases hf : testF d k n m = 0
  · have hne : (testF d k n m != 0) = false := by simp [hf]
    by_cases hp : 0 ≤ p ∧ p ≤ 60
    · obtain ⟨d1, d3, k1, k5, hmi⟩ := test_ok hf
      obtain ⟨hp0, hp60⟩ := id hp
      obtain ⟨q, hq, hrq, rfl, rfl, h0, h1q, hlq⟩ := miss_parts hmi
      obtain ⟨kn, rfl⟩ : ∃ x : Nat, k = (x : Int) := ⟨k.toNat, by omega⟩
      obtain ⟨pn, rfl⟩ : ∃ x : Nat, p = (x : Int) := ⟨p.toNat, by omega⟩
      obtain ⟨o, ho⟩ : ∃ o, lnFind (lnDec d kn q⁻¹ pn) (lnFrom d pn) (pn + 1 - lnFrom d pn) = o := ⟨_, rfl⟩
      have HO : Hid (lnF d (kn : Int) (showN q) (showD q) (pn : Int) = 0 ∧ lnO d (kn : Int) (showN q) (showD q) (pn : Int) = o) := by
        have e : lnF d (kn : Int) (showN q) (showD q) (pn : Int) = 0 := by unfold lnF; rw [if_neg (fun h => h hf), if_pos hp]
        refine Lib.hid ⟨e, ?_⟩
        unfold lnO
        rw [if_pos e, hrq]
        exact ho
      have HFI := Lib.hid ho
      have hpn : pn ≤ 60 := by omega
      have hk1 : 1 ≤ kn := by omega
      have hk5 : kn ≤ 5 := by omega
      have HQ := Lib.hid hq
      have HEN : Hid (∀ u v : Nat, u + v ≤ 60 → Fits (evR d kn u v) ∧ Fits (evR d kn u v * q)) := Lib.hid fun u v h => ⟨(evR_ln hk1 hk5 (by omega) (by omega)).fits (by omega) (by omega), ((evR_ln hk1 hk5 (by omega) (by omega)).mul hlq).fits (by omega) (by omega)⟩
      have HDE : Hid (∀ i : Nat, (!(decide (evR d kn (if d = 2 then pn - i else i) (if d = 2 then i else pn - i) * q < 1))) = lnDec d kn q⁻¹ pn i) := Lib.hid fun i => (dec_enough d1 d3 hk1 h0 _ _).symm
      clear hf hp hp0 hp60 hq hrq h0 h1q hlq ho k1 k5 hmi hn hm
      obtain rfl | rfl | rfl : d = 1 ∨ d = 2 ∨ d = 3 := by omega
      · have c_t_0 : w2'.cell? ⟨w.heap.size, 0, none⟩ = some (.int .i64 1) := HB_t.out.2 0
        have c_t_1 : w2'.cell? ⟨w.heap.size, 1, none⟩ = some (.int .i64 (kn : Int)) := HB_t.out.2 1
        have c_t_2 : w2'.cell? ⟨w.heap.size, 2, none⟩ = some (.string (showN q)) := HB_t.out.2 2
        have c_t_3 : w2'.cell? ⟨w.heap.size, 3, none⟩ = some (.string (showD q)) := HB_t.out.2 3
        have HFE : Hid (lnFrom 1 pn = 0) := Lib.hid rfl
        rw [HFE.out] at HFI
        clear HFE
        go_wp2
        clear c_t_0 c_t_1 c_t_2 c_t_3
        go_loopw [9] (fun i' wr => ∃ i : Nat, i ≤ pn + 1 ∧ i' = .int .i64 (i : Int) ∧ Hid (lnFind (lnDec 1 kn q⁻¹ pn) i (pn + 1 - i) = o) ∧ (Box wr w.heap.size #[.int .i64 1, .int .i64 (kn : Int), .string (showN q), .string (showD q)]) ∧ (Below w.heap.size w wr)) (fun i' _ => pn + 1 - (intOf i').toNat)
        case atStart => exact ⟨0, by omega, rfl, HFI, HB_t.out, HW.out⟩
        case round =>
          obtain ⟨i, hi, rfl, HFJ, q_HB_t, q_HW⟩ := hrel
          clear HB_t HW
          clear HFI
          have HB_t := Lib.hid q_HB_t
          have HW := Lib.hid q_HW
          clear q_HB_t q_HW
          generalize hX : wr = X at *
          clear hX
          by_cases hlt : i ≤ pn
          · obtain ⟨j, hj⟩ : ∃ j, pn - i = j := ⟨_, rfl⟩
            have hij : i + j ≤ 60 := by omega
            have hji : j + i ≤ 60 := by omega
            have hi60 : i ≤ 60 := by omega
            have hj60 : j ≤ 60 := by omega
            obtain ⟨k9, hk9⟩ : ∃ x, pn + 1 - i = x + 1 := ⟨pn - i, by omega⟩
            have HK9 : Hid (pn + 1 - (i + 1) = k9) := Lib.hid (by omega)
            rw [hk9] at HFJ
            clear hk9
            obtain ⟨E, hE⟩ : ∃ E, evR 1 kn i j = E := ⟨_, rfl⟩
            obtain ⟨r, hr⟩ : ∃ r, lnDec 1 kn q⁻¹ pn i = r := ⟨_, rfl⟩
            have HR1 : Hid ((!(decide (E * q < 1))) = r) := Lib.hid (by have h := HDE.out i; rw [hr] at h; rw [← hE, ← hj]; exact h)
            have HR2 := Lib.hid hr
            have HEF : Hid (Fits E ∧ Fits (E * q)) := Lib.hid (by rw [← hE]; exact HEN.out _ _ hij)
            have HE := Lib.hid hE
            have hjI : (pn : Int) - (i : Int) = (j : Int) := by omega
            have hbd : -9223372036854775808 ≤ (pn : Int) - (i : Int) ∧ (pn : Int) - (i : Int) ≤ 9223372036854775807 := by omega
            have e9 : IntKind.i64.wrap ((pn : Int) - (i : Int)) = (j : Int) := (IntWalk.i64_in _ hbd).trans hjI
            clear hr hj hjI hbd hE
            have c_t_0 : X.cell? ⟨w.heap.size, 0, none⟩ = some (.int .i64 1) := HB_t.out.2 0
            have c_t_1 : X.cell? ⟨w.heap.size, 1, none⟩ = some (.int .i64 (kn : Int)) := HB_t.out.2 1
            have c_t_2 : X.cell? ⟨w.heap.size, 2, none⟩ = some (.string (showN q)) := HB_t.out.2 2
            have c_t_3 : X.cell? ⟨w.heap.size, 3, none⟩ = some (.string (showD q)) := HB_t.out.2 3
            go_wp2_with fail
            refine (refEvid_is 1 _ _ _ kn i j rfl rfl rfl (by decide) (by decide) (showN q) (showD q) hk1 hk5 hi60 hj60 X (HT0.out.ext HW.out)).mono ?_
            rintro e w3' ⟨rfl, hbz⟩
            rw [HE.out]
            replace HB_t := Lib.hid (HB_t.out.ext hbz)
            replace HW := Lib.hid (ext_trans HW.out hbz)
            clear c_t_0 c_t_1 c_t_2 c_t_3
            clear hbz
            clear e9
            go_upto_region 13 with (fail)
            refine wp_box1 fun w4' hsz hbz hC => ?_
            clear hsz
            have lt_t_e : w.heap.size < w3'.heap.size := HB_t.out.1
            have le_e : w.heap.size ≤ w3'.heap.size := HW.out.size
            replace HB_t := Lib.hid (HB_t.out.ext hbz)
            replace HW := Lib.hid (ext_trans HW.out hbz)
            clear hbz
            have HB_e := Lib.hid hC
            clear hC
            generalize w3'.heap.size = b_e at *
            have c_t_0 : w4'.cell? ⟨w.heap.size, 0, none⟩ = some (.int .i64 1) := HB_t.out.2 0
            have c_t_1 : w4'.cell? ⟨w.heap.size, 1, none⟩ = some (.int .i64 (kn : Int)) := HB_t.out.2 1
            have c_t_2 : w4'.cell? ⟨w.heap.size, 2, none⟩ = some (.string (showN q)) := HB_t.out.2 2
            have c_t_3 : w4'.cell? ⟨w.heap.size, 3, none⟩ = some (.string (showD q)) := HB_t.out.2 3
            have c_e_0 : w4'.cell? ⟨b_e, 0, none⟩ = some (.string (showN (E))) := HB_e.out.2 0
            have c_e_1 : w4'.cell? ⟨b_e, 1, none⟩ = some (.string (showD (E))) := HB_e.out.2 1
            go_wp2_with fail
            refine (enough_is E q r HR1.out HEF.out.1 HQ.out HEF.out.2 w4' (HT0.out.ext HW.out)).mono ?_
            rintro e w5' ⟨rfl, hbz⟩
            replace HB_t := Lib.hid (HB_t.out.ext hbz)
            replace HB_e := Lib.hid (HB_e.out.ext hbz)
            replace HW := Lib.hid (ext_trans HW.out hbz)
            clear c_t_0 c_t_1 c_t_2 c_t_3 c_e_0 c_e_1
            clear hbz
            cases r with
            | true =>
              have HV : Hid (o = some i) := Lib.hid (by rw [← HFJ.out]; exact lnFind_hit HR2.out)
              go_wp2
              exact bodyPost_ret (v := .tuple #[.int .i64 (i : Int), .bool true, .int .i64 0]) (by simp [results, Tryz.results43, go_sem]) rfl ⟨by rw [HO.out.1, HO.out.2, HV.out]; rfl, HW.out⟩
            | false =>
              have HV : Hid (lnFind (lnDec 1 kn q⁻¹ pn) (i + 1) (pn + 1 - (i + 1)) = o) := Lib.hid (by rw [HK9.out, ← HFJ.out]; exact (lnFind_step HR2.out).symm)
              have e8 : IntKind.i64.wrap ((i : Int) + 1) = (i : Int) + 1 := IntWalk.i64_in _ (by omega)
              go_wp2
              go_roundw
              case rel => exact ⟨i + 1, by omega, by go_num, HV, HB_t.out, HW.out⟩
              case measure => simp [intOf]; omega
          · have HV : Hid (o = none) := Lib.hid (by rw [← HFJ.out, show pn + 1 - i = 0 by omega]; rfl)
            go_wp2
            exact bodyPost_ret (v := .tuple #[.int .i64 0, .bool false, .int .i64 0]) (by simp [results, Tryz.results43, go_sem]) rfl ⟨by rw [HO.out.1, HO.out.2, HV.out]; rfl, HW.out⟩
      · have c_t_0 : w2'.cell? ⟨w.heap.size, 0, none⟩ = some (.int .i64 2) := HB_t.out.2 0
        have c_t_1 : w2'.cell? ⟨w.heap.size, 1, none⟩ = some (.int .i64 (kn : Int)) := HB_t.out.2 1
        have c_t_2 : w2'.cell? ⟨w.heap.size, 2, none⟩ = some (.string (showN q)) := HB_t.out.2 2
        have c_t_3 : w2'.cell? ⟨w.heap.size, 3, none⟩ = some (.string (showD q)) := HB_t.out.2 3
        have HFE : Hid (lnFrom 2 pn = 0) := Lib.hid rfl
        rw [HFE.out] at HFI
        clear HFE
        go_wp2
        clear c_t_0 c_t_1 c_t_2 c_t_3
        go_loopw [9] (fun i' wr => ∃ i : Nat, i ≤ pn + 1 ∧ i' = .int .i64 (i : Int) ∧ Hid (lnFind (lnDec 2 kn q⁻¹ pn) i (pn + 1 - i) = o) ∧ (Box wr w.heap.size #[.int .i64 2, .int .i64 (kn : Int), .string (showN q), .string (showD q)]) ∧ (Below w.heap.size w wr)) (fun i' _ => pn + 1 - (intOf i').toNat)
        case atStart => exact ⟨0, by omega, rfl, HFI, HB_t.out, HW.out⟩
        case round =>
          obtain ⟨i, hi, rfl, HFJ, q_HB_t, q_HW⟩ := hrel
          clear HB_t HW
          clear HFI
          have HB_t := Lib.hid q_HB_t
          have HW := Lib.hid q_HW
          clear q_HB_t q_HW
          generalize hX : wr = X at *
          clear hX
          by_cases hlt : i ≤ pn
          · obtain ⟨j, hj⟩ : ∃ j, pn - i = j := ⟨_, rfl⟩
            have hij : i + j ≤ 60 := by omega
            have hji : j + i ≤ 60 := by omega
            have hi60 : i ≤ 60 := by omega
            have hj60 : j ≤ 60 := by omega
            obtain ⟨k9, hk9⟩ : ∃ x, pn + 1 - i = x + 1 := ⟨pn - i, by omega⟩
            have HK9 : Hid (pn + 1 - (i + 1) = k9) := Lib.hid (by omega)
            rw [hk9] at HFJ
            clear hk9
            obtain ⟨E, hE⟩ : ∃ E, evR 2 kn j i = E := ⟨_, rfl⟩
            obtain ⟨r, hr⟩ : ∃ r, lnDec 2 kn q⁻¹ pn i = r := ⟨_, rfl⟩
            have HR1 : Hid ((!(decide (E * q < 1))) = r) := Lib.hid (by have h := HDE.out i; rw [hr] at h; rw [← hE, ← hj]; exact h)
            have HR2 := Lib.hid hr
            have HEF : Hid (Fits E ∧ Fits (E * q)) := Lib.hid (by rw [← hE]; exact HEN.out _ _ hji)
            have HE := Lib.hid hE
            have hjI : (pn : Int) - (i : Int) = (j : Int) := by omega
            have hbd : -9223372036854775808 ≤ (pn : Int) - (i : Int) ∧ (pn : Int) - (i : Int) ≤ 9223372036854775807 := by omega
            have e9 : IntKind.i64.wrap ((pn : Int) - (i : Int)) = (j : Int) := (IntWalk.i64_in _ hbd).trans hjI
            clear hr hj hjI hbd hE
            have c_t_0 : X.cell? ⟨w.heap.size, 0, none⟩ = some (.int .i64 2) := HB_t.out.2 0
            have c_t_1 : X.cell? ⟨w.heap.size, 1, none⟩ = some (.int .i64 (kn : Int)) := HB_t.out.2 1
            have c_t_2 : X.cell? ⟨w.heap.size, 2, none⟩ = some (.string (showN q)) := HB_t.out.2 2
            have c_t_3 : X.cell? ⟨w.heap.size, 3, none⟩ = some (.string (showD q)) := HB_t.out.2 3
            obtain ⟨E0, hE0⟩ : ∃ E, evR 2 kn i j = E := ⟨_, rfl⟩
            have HE0 := Lib.hid hE0
            clear hE0
            go_wp2_with fail
            refine (refEvid_is 2 _ _ _ kn i j rfl rfl rfl (by decide) (by decide) (showN q) (showD q) hk1 hk5 hi60 hj60 X (HT0.out.ext HW.out)).mono ?_
            rintro e w3' ⟨rfl, hbz⟩
            rw [HE0.out]
            replace HB_t := Lib.hid (HB_t.out.ext hbz)
            replace HW := Lib.hid (ext_trans HW.out hbz)
            clear c_t_0 c_t_1 c_t_2 c_t_3
            clear hbz
            go_upto_region 13 with (fail)
            refine wp_box1r fun w4' hsz hbz hC hF => ?_
            clear hsz
            have lt_t_e : w.heap.size < w3'.heap.size := HB_t.out.1
            have le_e : w.heap.size ≤ w3'.heap.size := HW.out.size
            replace HB_t := Lib.hid (HB_t.out.ext hbz)
            replace HW := Lib.hid (ext_trans HW.out hbz)
            clear hbz
            have HB_e := Lib.hid hC
            have HF_e := Lib.hid hF
            clear hC hF
            generalize w3'.heap.size = b_e at *
            have c_t_0 : w4'.cell? ⟨w.heap.size, 0, none⟩ = some (.int .i64 2) := HB_t.out.2 0
            have c_t_1 : w4'.cell? ⟨w.heap.size, 1, none⟩ = some (.int .i64 (kn : Int)) := HB_t.out.2 1
            have c_t_2 : w4'.cell? ⟨w.heap.size, 2, none⟩ = some (.string (showN q)) := HB_t.out.2 2
            have c_t_3 : w4'.cell? ⟨w.heap.size, 3, none⟩ = some (.string (showD q)) := HB_t.out.2 3
            go_wp2_with fail
            refine (refEvid_is 2 _ _ _ kn j i rfl rfl rfl (by decide) (by decide) (showN q) (showD q) hk1 hk5 hj60 hi60 w4' (HT0.out.ext HW.out)).mono ?_
            rintro e w5' ⟨rfl, hbz⟩
            rw [HE.out]
            replace HB_t := Lib.hid (HB_t.out.ext hbz)
            replace HF_e := Lib.hid (HF_e.out.ext HB_e.out hbz)
            replace HB_e := Lib.hid (HB_e.out.ext hbz)
            replace HW := Lib.hid (ext_trans HW.out hbz)
            clear c_t_0 c_t_1 c_t_2 c_t_3
            clear hbz
            have c_e_0 : w5'.cell? ⟨b_e, 0, none⟩ = some (.string (showN (E0))) := HB_e.out.2 0
            have c_e_1 : w5'.cell? ⟨b_e, 1, none⟩ = some (.string (showD (E0))) := HB_e.out.2 1
            have f_e_0 := HF_e.out 0
            have f_e_1 := HF_e.out 1
            clear e9
            go_upto_region 15 with (fail)
            obtain ⟨w6', hX⟩ : ∃ X, X = ((w5'.setCell ⟨b_e, 0, none⟩ (.string (showN (E)))).setCell ⟨b_e, 1, none⟩ (.string (showD (E)))) := ⟨_, rfl⟩
            rw [← hX]
            have nB_t : Hid (Box w6' w.heap.size #[.int .i64 2, .int .i64 (kn : Int), .string (showN q), .string (showD q)]) := by rw [hX]; exact Lib.hid (boxn_other (boxn_other (HB_t.out) (Nat.ne_of_lt lt_t_e) 0 (.string (showN (E)))) (Nat.ne_of_lt lt_t_e) 1 (.string (showD (E))))
            have nB_e : Hid (Box w6' b_e #[.string (showN (E)), .string (showD (E))]) := by rw [hX]; exact Lib.hid (boxn_cell (boxn_cell (HB_e.out) (j := 0) (by simp) (.string (showN (E)))) (j := 1) (by simp) (.string (showD (E))))
            have nF_e : Hid (Fre w6' b_e) := by rw [hX]; exact Lib.hid (fun j => by simp only [World.frozen?_setCell]; exact HF_e.out j)
            have nW : Hid (Below w.heap.size w w6') := by rw [hX]; exact Lib.hid (((HW.out).setCell (p := ⟨b_e, 0, none⟩) le_e (.string (showN (E)))).setCell (p := ⟨b_e, 1, none⟩) le_e (.string (showD (E))))
            clear c_e_0 c_e_1 f_e_0 f_e_1
            clear hX HB_t HB_e HF_e HW
            have HB_t := nB_t
            have HB_e := nB_e; have HF_e := nF_e
            have HW := nW
            clear nW nB_t nB_e nF_e
            have c_t_0 : w6'.cell? ⟨w.heap.size, 0, none⟩ = some (.int .i64 2) := HB_t.out.2 0
            have c_t_1 : w6'.cell? ⟨w.heap.size, 1, none⟩ = some (.int .i64 (kn : Int)) := HB_t.out.2 1
            have c_t_2 : w6'.cell? ⟨w.heap.size, 2, none⟩ = some (.string (showN q)) := HB_t.out.2 2
            have c_t_3 : w6'.cell? ⟨w.heap.size, 3, none⟩ = some (.string (showD q)) := HB_t.out.2 3
            have c_e_0 : w6'.cell? ⟨b_e, 0, none⟩ = some (.string (showN (E))) := HB_e.out.2 0
            have c_e_1 : w6'.cell? ⟨b_e, 1, none⟩ = some (.string (showD (E))) := HB_e.out.2 1
            go_wp2_with fail
            refine (enough_is E q r HR1.out HEF.out.1 HQ.out HEF.out.2 w6' (HT0.out.ext HW.out)).mono ?_
            rintro e w7' ⟨rfl, hbz⟩
            replace HB_t := Lib.hid (HB_t.out.ext hbz)
            replace HF_e := Lib.hid (HF_e.out.ext HB_e.out hbz)
            replace HB_e := Lib.hid (HB_e.out.ext hbz)
            replace HW := Lib.hid (ext_trans HW.out hbz)
            clear c_t_0 c_t_1 c_t_2 c_t_3 c_e_0 c_e_1
            clear hbz
            cases r with
            | true =>
              have HV : Hid (o = some i) := Lib.hid (by rw [← HFJ.out]; exact lnFind_hit HR2.out)
              go_wp2
              exact bodyPost_ret (v := .tuple #[.int .i64 (i : Int), .bool true, .int .i64 0]) (by simp [results, Tryz.results43, go_sem]) rfl ⟨by rw [HO.out.1, HO.out.2, HV.out]; rfl, HW.out⟩
            | false =>
              have HV : Hid (lnFind (lnDec 2 kn q⁻¹ pn) (i + 1) (pn + 1 - (i + 1)) = o) := Lib.hid (by rw [HK9.out, ← HFJ.out]; exact (lnFind_step HR2.out).symm)
              have e8 : IntKind.i64.wrap ((i : Int) + 1) = (i : Int) + 1 := IntWalk.i64_in _ (by omega)
              go_wp2
              go_roundw
              case rel => exact ⟨i + 1, by omega, by go_num, HV, HB_t.out, HW.out⟩
              case measure => simp [intOf]; omega
          · have HV : Hid (o = none) := Lib.hid (by rw [← HFJ.out, show pn + 1 - i = 0 by omega]; rfl)
            go_wp2
            exact bodyPost_ret (v := .tuple #[.int .i64 0, .bool false, .int .i64 0]) (by simp [results, Tryz.results43, go_sem]) rfl ⟨by rw [HO.out.1, HO.out.2, HV.out]; rfl, HW.out⟩
      · have c_t_0 : w2'.cell? ⟨w.heap.size, 0, none⟩ = some (.int .i64 3) := HB_t.out.2 0
        have c_t_1 : w2'.cell? ⟨w.heap.size, 1, none⟩ = some (.int .i64 (kn : Int)) := HB_t.out.2 1
        have c_t_2 : w2'.cell? ⟨w.heap.size, 2, none⟩ = some (.string (showN q)) := HB_t.out.2 2
        have c_t_3 : w2'.cell? ⟨w.heap.size, 3, none⟩ = some (.string (showD q)) := HB_t.out.2 3
        have HFE : Hid (lnFrom 3 pn = (pn + 1) / 2) := Lib.hid rfl
        obtain ⟨fr, hfr⟩ : ∃ x, (pn + 1) / 2 = x := ⟨_, rfl⟩
        have hfrp : fr ≤ pn := by omega
        have e2 : ((pn : Int) + 1).tdiv 2 = (fr : Int) := by rw [Int.tdiv_eq_ediv_of_nonneg (by omega)]; omega
        have e1 : IntKind.i64.wrap ((pn : Int) + 1) = (pn : Int) + 1 := IntWalk.i64_in _ (by omega)
        rw [HFE.out, hfr] at HFI
        clear hfr HFE
        go_wp2
        clear e1 e2
        clear c_t_0 c_t_1 c_t_2 c_t_3
        go_loopw [9] (fun i' wr => ∃ i : Nat, i ≤ pn + 1 ∧ i' = .int .i64 (i : Int) ∧ Hid (lnFind (lnDec 3 kn q⁻¹ pn) i (pn + 1 - i) = o) ∧ (Box wr w.heap.size #[.int .i64 3, .int .i64 (kn : Int), .string (showN q), .string (showD q)]) ∧ (Below w.heap.size w wr)) (fun i' _ => pn + 1 - (intOf i').toNat)
        case atStart => exact ⟨fr, by omega, rfl, HFI, HB_t.out, HW.out⟩
        case round =>
          obtain ⟨i, hi, rfl, HFJ, q_HB_t, q_HW⟩ := hrel
          clear HB_t HW
          clear HFI
          have HB_t := Lib.hid q_HB_t
          have HW := Lib.hid q_HW
          clear q_HB_t q_HW
          generalize hX : wr = X at *
          clear hX
          by_cases hlt : i ≤ pn
          · obtain ⟨j, hj⟩ : ∃ j, pn - i = j := ⟨_, rfl⟩
            have hij : i + j ≤ 60 := by omega
            have hji : j + i ≤ 60 := by omega
            have hi60 : i ≤ 60 := by omega
            have hj60 : j ≤ 60 := by omega
            obtain ⟨k9, hk9⟩ : ∃ x, pn + 1 - i = x + 1 := ⟨pn - i, by omega⟩
            have HK9 : Hid (pn + 1 - (i + 1) = k9) := Lib.hid (by omega)
            rw [hk9] at HFJ
            clear hk9
            obtain ⟨E, hE⟩ : ∃ E, evR 3 kn i j = E := ⟨_, rfl⟩
            obtain ⟨r, hr⟩ : ∃ r, lnDec 3 kn q⁻¹ pn i = r := ⟨_, rfl⟩
            have HR1 : Hid ((!(decide (E * q < 1))) = r) := Lib.hid (by have h := HDE.out i; rw [hr] at h; rw [← hE, ← hj]; exact h)
            have HR2 := Lib.hid hr
            have HEF : Hid (Fits E ∧ Fits (E * q)) := Lib.hid (by rw [← hE]; exact HEN.out _ _ hij)
            have HE := Lib.hid hE
            have hjI : (pn : Int) - (i : Int) = (j : Int) := by omega
            have hbd : -9223372036854775808 ≤ (pn : Int) - (i : Int) ∧ (pn : Int) - (i : Int) ≤ 9223372036854775807 := by omega
            have e9 : IntKind.i64.wrap ((pn : Int) - (i : Int)) = (j : Int) := (IntWalk.i64_in _ hbd).trans hjI
            clear hr hj hjI hbd hE
            have c_t_0 : X.cell? ⟨w.heap.size, 0, none⟩ = some (.int .i64 3) := HB_t.out.2 0
            have c_t_1 : X.cell? ⟨w.heap.size, 1, none⟩ = some (.int .i64 (kn : Int)) := HB_t.out.2 1
            have c_t_2 : X.cell? ⟨w.heap.size, 2, none⟩ = some (.string (showN q)) := HB_t.out.2 2
            have c_t_3 : X.cell? ⟨w.heap.size, 3, none⟩ = some (.string (showD q)) := HB_t.out.2 3
            go_wp2_with fail
            refine (refEvid_is 3 _ _ _ kn i j rfl rfl rfl (by decide) (by decide) (showN q) (showD q) hk1 hk5 hi60 hj60 X (HT0.out.ext HW.out)).mono ?_
            rintro e w3' ⟨rfl, hbz⟩
            rw [HE.out]
            replace HB_t := Lib.hid (HB_t.out.ext hbz)
            replace HW := Lib.hid (ext_trans HW.out hbz)
            clear c_t_0 c_t_1 c_t_2 c_t_3
            clear hbz
            clear e9
            go_upto_region 13 with (fail)
            refine wp_box1 fun w4' hsz hbz hC => ?_
            clear hsz
            have lt_t_e : w.heap.size < w3'.heap.size := HB_t.out.1
            have le_e : w.heap.size ≤ w3'.heap.size := HW.out.size
            replace HB_t := Lib.hid (HB_t.out.ext hbz)
            replace HW := Lib.hid (ext_trans HW.out hbz)
            clear hbz
            have HB_e := Lib.hid hC
            clear hC
            generalize w3'.heap.size = b_e at *
            have c_t_0 : w4'.cell? ⟨w.heap.size, 0, none⟩ = some (.int .i64 3) := HB_t.out.2 0
            have c_t_1 : w4'.cell? ⟨w.heap.size, 1, none⟩ = some (.int .i64 (kn : Int)) := HB_t.out.2 1
            have c_t_2 : w4'.cell? ⟨w.heap.size, 2, none⟩ = some (.string (showN q)) := HB_t.out.2 2
            have c_t_3 : w4'.cell? ⟨w.heap.size, 3, none⟩ = some (.string (showD q)) := HB_t.out.2 3
            have c_e_0 : w4'.cell? ⟨b_e, 0, none⟩ = some (.string (showN (E))) := HB_e.out.2 0
            have c_e_1 : w4'.cell? ⟨b_e, 1, none⟩ = some (.string (showD (E))) := HB_e.out.2 1
            go_wp2_with fail
            refine (enough_is E q r HR1.out HEF.out.1 HQ.out HEF.out.2 w4' (HT0.out.ext HW.out)).mono ?_
            rintro e w5' ⟨rfl, hbz⟩
            replace HB_t := Lib.hid (HB_t.out.ext hbz)
            replace HB_e := Lib.hid (HB_e.out.ext hbz)
            replace HW := Lib.hid (ext_trans HW.out hbz)
            clear c_t_0 c_t_1 c_t_2 c_t_3 c_e_0 c_e_1
            clear hbz
            cases r with
            | true =>
              have HV : Hid (o = some i) := Lib.hid (by rw [← HFJ.out]; exact lnFind_hit HR2.out)
              go_wp2
              exact bodyPost_ret (v := .tuple #[.int .i64 (i : Int), .bool true, .int .i64 0]) (by simp [results, Tryz.results43, go_sem]) rfl ⟨by rw [HO.out.1, HO.out.2, HV.out]; rfl, HW.out⟩
            | false =>
              have HV : Hid (lnFind (lnDec 3 kn q⁻¹ pn) (i + 1) (pn + 1 - (i + 1)) = o) := Lib.hid (by rw [HK9.out, ← HFJ.out]; exact (lnFind_step HR2.out).symm)
              have e8 : IntKind.i64.wrap ((i : Int) + 1) = (i : Int) + 1 := IntWalk.i64_in _ (by omega)
              go_wp2
              go_roundw
              case rel => exact ⟨i + 1, by omega, by go_num, HV, HB_t.out, HW.out⟩
              case measure => simp [intOf]; omega
          · have HV : Hid (o = none) := Lib.hid (by rw [← HFJ.out, show pn + 1 - i = 0 by omega]; rfl)
            go_wp2
            exact bodyPost_ret (v := .tuple #[.int .i64 0, .bool false, .int .i64 0]) (by simp [results, Tryz.results43, go_sem]) rfl ⟨by rw [HO.out.1, HO.out.2, HV.out]; rfl, HW.out⟩
    · have HO : Hid (lnF d k n m p = 1 ∧ lnO d k n m p = none) := by
        have e : lnF d k n m p = 1 := by unfold lnF; rw [if_neg (fun h => h hf), if_neg hp]
        exact Lib.hid ⟨e, by unfold lnO; rw [if_neg (by rw [e]; first | decide | assumption)]⟩
      by_cases g1 : p < 0
      · clear hf hp
        go_wp2
        exact bodyPost_ret (v := .tuple #[.int .i64 0, .bool false, .int .i64 (1)]) (by simp [results, Tryz.results43, go_sem]) rfl ⟨by rw [HO.out.1, HO.out.2]; rfl, HW.out⟩
      · have g2 : 60 < p := by omega
        clear hf hp
        go_wp2
        exact bodyPost_ret (v := .tuple #[.int .i64 0, .bool false, .int .i64 (1)]) (by simp [results, Tryz.results43, go_sem]) rfl ⟨by rw [HO.out.1, HO.out.2]; rfl, HW.out⟩
  · have HO : Hid (lnF d k n m p = testF d k n m ∧ lnO d k n m p = none) := by
      have e : lnF d k n m p = testF d k n m := by unfold lnF; rw [if_pos hf]
      exact Lib.hid ⟨e, by unfold lnO; rw [if_neg (by rw [e]; first | decide | assumption)]⟩
    have hne : (testF d k n m != 0) = true := by simp [hf]
    clear hf
    go_wp2
    exact bodyPost_ret (v := .tuple #[.int .i64 0, .bool false, .int .i64 (testF d k n m)]) (by simp [results, Tryz.results43, go_sem]) rfl ⟨by rw [HO.out.1, HO.out.2]; rfl, HW.out⟩
end Nt
end Go.Proofs.YtmnmepbljegjeaaGreatDoor
