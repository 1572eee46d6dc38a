/- The walk of the law of least lines: for every test and every number of pairs it returns true, where the table of strconv lies. Printed by gen_lawline.py. -/
import Derived.Test.YtmnmepbljegjeaaGreatDoorBa39
import Derived.Test.YtmnmepbljegjeaaGreatDoorBa69
namespace Go.Proofs.YtmnmepbljegjeaaGreatDoor.lawLine
open Go.RowKit _root_.Go.Proofs.YtmnmepbljegjeaaGreatDoor.Nm _root_.Go.Proofs.YtmnmepbljegjeaaGreatDoor.Nt
theorem progEvidence_is (d k : Int) (n m : ByteArray) (hn : n.size ≤ maxLen) (hm : m.size ≤ maxLen) (a b a' b' : Int) (ha : a = a') (hb : b = b') (w : World) : Calls Tryz.prog 35 #[.agg #[.int .i64 d, .int .i64 k, .string n, .string m], .int .i64 a, .int .i64 b] w (AnsPost w (evN d k n m a' b') (evD d k n m a' b') (evF d k n m a' b')) := by
  subst ha; subst hb; exact progEvidence_at d k n m hn hm a b w
set_option maxRecDepth 100000 in
set_option maxHeartbeats 16000000 in
theorem clo1 (kn : Nat) (q : Rat) (hq : Fits q) (u j p bT bP : Nat) (h1 : 1 ≤ kn) (h5 : kn ≤ 5) (huj : u + j = p) (hp : p ≤ 60) (hm : missF (showN q) (showD q) = 0) (hl : Ln 100 100 q) (w : World) (hT : Box w bT #[.int .i64 1, .int .i64 (kn : Int), .string (showN q), .string (showD q)]) (hP : Box w bP #[.int .i64 (p : Int)]) (ht : Tab w) :
    Calls Tryz.prog 48 #[.int .i64 (u : Int), .pointer (some ⟨bP, 0, none⟩), .pointer (some ⟨bT, 0, none⟩)] w (fun e w' => e = .returned (.bool (!(decide (evR 1 kn u j * q < 1)))) ∧ Below w.heap.size w w') := by
  have hte : testF 1 (kn : Int) (showN q) (showD q) = 0 := by unfold testF; rw [if_neg (by omega), if_neg (by omega)]; exact hm
  have HF := Lib.hid hq
  obtain ⟨E, hE⟩ : ∃ E, evR 1 kn u j = E := ⟨_, rfl⟩
  obtain ⟨r, hr⟩ : ∃ r, decide (E * q < 1) = r := ⟨_, rfl⟩
  have hfe : Ln 2700 1300 E := by rw [← hE]; exact evR_ln h1 h5 (by omega) (by omega)
  have HFE : Hid (Fits E) := Lib.hid (hfe.fits (by omega) (by omega))
  have HFM : Hid (Fits (E * q)) := Lib.hid ((hfe.mul hl).fits (by omega) (by omega))
  have HE : Hid (evF 1 (kn : Int) (showN q) (showD q) (u : Int) (j : Int) = 0 ∧ evN 1 (kn : Int) (showN q) (showD q) (u : Int) (j : Int) = showN E ∧ evD 1 (kn : Int) (showN q) (showD q) (u : Int) (j : Int) = showD E) := by
    have e : evF 1 (kn : Int) (showN q) (showD q) (u : Int) (j : Int) = 0 := by unfold evF; rw [if_neg (fun h => h hte), if_pos (by unfold evOk; omega)]
    refine Lib.hid ⟨e, ?_, ?_⟩
    · unfold evN; rw [if_pos e, ← hE]; rfl
    · unfold evD; rw [if_pos e, ← hE]; rfl
  rw [hE, hr]
  have HR := Lib.hid hr
  have hb9 : -9223372036854775808 ≤ (p : Int) - (u : Int) ∧ (p : Int) - (u : Int) ≤ 9223372036854775807 := by omega
  have hj9 : (p : Int) - (u : Int) = (j : Int) := by omega
  have e9 : IntKind.i64.wrap ((p : Int) - (u : Int)) = (j : Int) := (IntWalk.i64_in _ hb9).trans hj9
  clear hE hr hte hm hl hfe hj9 hb9 hq
  go_enter Tryz.func48, Tryz.ntmps48
  have HT0 := Lib.hid ht
  have HB_t := Lib.hid hT
  have HB_p := Lib.hid hP
  clear ht hT hP
  have c_t_0 : w.cell? ⟨bT, 0, none⟩ = some (.int .i64 1) := HB_t.out.2 0
  have c_t_1 : w.cell? ⟨bT, 1, none⟩ = some (.int .i64 (kn : Int)) := HB_t.out.2 1
  have c_t_2 : w.cell? ⟨bT, 2, none⟩ = some (.string (showN q)) := HB_t.out.2 2
  have c_t_3 : w.cell? ⟨bT, 3, none⟩ = some (.string (showD q)) := HB_t.out.2 3
  have c_p_0 : w.cell? ⟨bP, 0, none⟩ = some (.int .i64 (p : Int)) := HB_p.out.2 0
  go_upto_region 1 with (fail)
  go_quiet (fail)
  have hbz : Below w.heap.size w (w.drewN nq) := below_drewN (Below.refl _ _) nq
  generalize w.drewN nq = Y at *
  replace HB_t := Lib.hid (HB_t.out.ext hbz)
  replace HB_p := Lib.hid (HB_p.out.ext hbz)
  have HW := Lib.hid hbz
  clear c_t_0 c_t_1 c_t_2 c_t_3 c_p_0
  clear hbz
  have c_t_0 : Y.cell? ⟨bT, 0, none⟩ = some (.int .i64 1) := HB_t.out.2 0
  have c_t_1 : Y.cell? ⟨bT, 1, none⟩ = some (.int .i64 (kn : Int)) := HB_t.out.2 1
  have c_t_2 : Y.cell? ⟨bT, 2, none⟩ = some (.string (showN q)) := HB_t.out.2 2
  have c_t_3 : Y.cell? ⟨bT, 3, none⟩ = some (.string (showD q)) := HB_t.out.2 3
  have c_p_0 : Y.cell? ⟨bP, 0, none⟩ = some (.int .i64 (p : Int)) := HB_p.out.2 0
  go_wp2_with fail
  refine (progEvidence_is 1 (kn : Int) (showN q) (showD q) (show_size HF.out).1 (show_size HF.out).2 _ _ (u : Int) (j : Int) rfl rfl Y).mono ?_
  rintro e w1' ⟨rfl, hbz⟩
  rw [HE.out.1, HE.out.2.1, HE.out.2.2]
  replace HB_t := Lib.hid (HB_t.out.ext hbz)
  replace HB_p := Lib.hid (HB_p.out.ext hbz)
  replace HW := Lib.hid (ext_trans HW.out hbz)
  clear c_t_0 c_t_1 c_t_2 c_t_3 c_p_0
  clear hbz
  clear e9
  go_upto_region 5 with (fail)
  refine wp_box1 fun w2' hsz hbz hC => ?_
  clear hsz
  have lt_t_e : bT < w1'.heap.size := HB_t.out.1
  have lt_p_e : bP < w1'.heap.size := HB_p.out.1
  have le_e : w.heap.size ≤ w1'.heap.size := HW.out.size
  replace HB_t := Lib.hid (HB_t.out.ext hbz)
  replace HB_p := Lib.hid (HB_p.out.ext hbz)
  replace HW := Lib.hid (ext_trans HW.out hbz)
  clear hbz
  have HB_e := Lib.hid hC
  clear hC
  generalize w1'.heap.size = b_e at *
  have c_t_0 : w2'.cell? ⟨bT, 0, none⟩ = some (.int .i64 1) := HB_t.out.2 0
  have c_t_1 : w2'.cell? ⟨bT, 1, none⟩ = some (.int .i64 (kn : Int)) := HB_t.out.2 1
  have c_t_2 : w2'.cell? ⟨bT, 2, none⟩ = some (.string (showN q)) := HB_t.out.2 2
  have c_t_3 : w2'.cell? ⟨bT, 3, none⟩ = some (.string (showD q)) := HB_t.out.2 3
  have c_e_0 : w2'.cell? ⟨b_e, 0, none⟩ = some (.string (showN (E))) := HB_e.out.2 0
  have c_e_1 : w2'.cell? ⟨b_e, 1, none⟩ = some (.string (showD (E))) := HB_e.out.2 1
  go_wp2_with fail
  refine (times_is E q (E * q) rfl HFE.out HF.out HFM.out w2' (HT0.out.ext HW.out)).mono ?_
  rintro e w3' ⟨rfl, hbz⟩
  replace HB_t := Lib.hid (HB_t.out.ext hbz)
  replace HB_p := Lib.hid (HB_p.out.ext hbz)
  replace HB_e := Lib.hid (HB_e.out.ext hbz)
  replace HW := Lib.hid (ext_trans HW.out hbz)
  clear c_t_0 c_t_1 c_t_2 c_t_3 c_e_0 c_e_1
  clear hbz
  go_wp2_with fail
  refine (whole1 w3' (HT0.out.ext HW.out)).mono ?_
  rintro e w4' ⟨rfl, hbz⟩
  replace HB_t := Lib.hid (HB_t.out.ext hbz)
  replace HB_p := Lib.hid (HB_p.out.ext hbz)
  replace HB_e := Lib.hid (HB_e.out.ext hbz)
  replace HW := Lib.hid (ext_trans HW.out hbz)
  clear hbz
  go_wp2_with fail
  refine (less_is (E * q) 1 r HR.out HFM.out fits1 w4' (HT0.out.ext HW.out)).mono ?_
  rintro e w5' ⟨rfl, hbz⟩
  replace HB_t := Lib.hid (HB_t.out.ext hbz)
  replace HB_p := Lib.hid (HB_p.out.ext hbz)
  replace HB_e := Lib.hid (HB_e.out.ext hbz)
  replace HW := Lib.hid (ext_trans HW.out hbz)
  clear hbz
  go_wp2
  go_ret
  exact ⟨rfl, HW.out⟩
set_option maxRecDepth 100000 in
set_option maxHeartbeats 16000000 in
theorem clo2 (kn : Nat) (q : Rat) (hq : Fits q) (u j p bT bP : Nat) (h1 : 1 ≤ kn) (h5 : kn ≤ 5) (huj : u + j = p) (hp : p ≤ 60) (hm : missF (showN q) (showD q) = 0) (hl : Ln 100 100 q) (w : World) (hT : Box w bT #[.int .i64 2, .int .i64 (kn : Int), .string (showN q), .string (showD q)]) (hP : Box w bP #[.int .i64 (p : Int)]) (ht : Tab w) :
    Calls Tryz.prog 48 #[.int .i64 (u : Int), .pointer (some ⟨bP, 0, none⟩), .pointer (some ⟨bT, 0, none⟩)] w (fun e w' => e = .returned (.bool (!(decide (evR 2 kn j u * q < 1)))) ∧ Below w.heap.size w w') := by
  have hte : testF 2 (kn : Int) (showN q) (showD q) = 0 := by unfold testF; rw [if_neg (by omega), if_neg (by omega)]; exact hm
  have HF := Lib.hid hq
  obtain ⟨E, hE⟩ : ∃ E, evR 2 kn j u = E := ⟨_, rfl⟩
  obtain ⟨r, hr⟩ : ∃ r, decide (E * q < 1) = r := ⟨_, rfl⟩
  have hfe : Ln 2700 1300 E := by rw [← hE]; exact evR_ln h1 h5 (by omega) (by omega)
  have HFE : Hid (Fits E) := Lib.hid (hfe.fits (by omega) (by omega))
  have HFM : Hid (Fits (E * q)) := Lib.hid ((hfe.mul hl).fits (by omega) (by omega))
  have HE : Hid (evF 2 (kn : Int) (showN q) (showD q) (j : Int) (u : Int) = 0 ∧ evN 2 (kn : Int) (showN q) (showD q) (j : Int) (u : Int) = showN E ∧ evD 2 (kn : Int) (showN q) (showD q) (j : Int) (u : Int) = showD E) := by
    have e : evF 2 (kn : Int) (showN q) (showD q) (j : Int) (u : Int) = 0 := by unfold evF; rw [if_neg (fun h => h hte), if_pos (by unfold evOk; omega)]
    refine Lib.hid ⟨e, ?_, ?_⟩
    · unfold evN; rw [if_pos e, ← hE]; rfl
    · unfold evD; rw [if_pos e, ← hE]; rfl
  rw [hE, hr]
  have HR := Lib.hid hr
  have hb9 : -9223372036854775808 ≤ (p : Int) - (u : Int) ∧ (p : Int) - (u : Int) ≤ 9223372036854775807 := by omega
  have hj9 : (p : Int) - (u : Int) = (j : Int) := by omega
  have e9 : IntKind.i64.wrap ((p : Int) - (u : Int)) = (j : Int) := (IntWalk.i64_in _ hb9).trans hj9
  clear hE hr hte hm hl hfe hj9 hb9 hq
  go_enter Tryz.func48, Tryz.ntmps48
  have HT0 := Lib.hid ht
  have HB_t := Lib.hid hT
  have HB_p := Lib.hid hP
  clear ht hT hP
  have c_t_0 : w.cell? ⟨bT, 0, none⟩ = some (.int .i64 2) := HB_t.out.2 0
  have c_t_1 : w.cell? ⟨bT, 1, none⟩ = some (.int .i64 (kn : Int)) := HB_t.out.2 1
  have c_t_2 : w.cell? ⟨bT, 2, none⟩ = some (.string (showN q)) := HB_t.out.2 2
  have c_t_3 : w.cell? ⟨bT, 3, none⟩ = some (.string (showD q)) := HB_t.out.2 3
  have c_p_0 : w.cell? ⟨bP, 0, none⟩ = some (.int .i64 (p : Int)) := HB_p.out.2 0
  go_upto_region 1 with (fail)
  go_quiet (fail)
  have hbz : Below w.heap.size w (w.drewN nq) := below_drewN (Below.refl _ _) nq
  generalize w.drewN nq = Y at *
  replace HB_t := Lib.hid (HB_t.out.ext hbz)
  replace HB_p := Lib.hid (HB_p.out.ext hbz)
  have HW := Lib.hid hbz
  clear c_t_0 c_t_1 c_t_2 c_t_3 c_p_0
  clear hbz
  have c_t_0 : Y.cell? ⟨bT, 0, none⟩ = some (.int .i64 2) := HB_t.out.2 0
  have c_t_1 : Y.cell? ⟨bT, 1, none⟩ = some (.int .i64 (kn : Int)) := HB_t.out.2 1
  have c_t_2 : Y.cell? ⟨bT, 2, none⟩ = some (.string (showN q)) := HB_t.out.2 2
  have c_t_3 : Y.cell? ⟨bT, 3, none⟩ = some (.string (showD q)) := HB_t.out.2 3
  have c_p_0 : Y.cell? ⟨bP, 0, none⟩ = some (.int .i64 (p : Int)) := HB_p.out.2 0
  go_wp2_with fail
  refine (progEvidence_is 2 (kn : Int) (showN q) (showD q) (show_size HF.out).1 (show_size HF.out).2 _ _ (j : Int) (u : Int) rfl rfl Y).mono ?_
  rintro e w1' ⟨rfl, hbz⟩
  rw [HE.out.1, HE.out.2.1, HE.out.2.2]
  replace HB_t := Lib.hid (HB_t.out.ext hbz)
  replace HB_p := Lib.hid (HB_p.out.ext hbz)
  replace HW := Lib.hid (ext_trans HW.out hbz)
  clear c_t_0 c_t_1 c_t_2 c_t_3 c_p_0
  clear hbz
  clear e9
  go_upto_region 5 with (fail)
  refine wp_box1 fun w2' hsz hbz hC => ?_
  clear hsz
  have lt_t_e : bT < w1'.heap.size := HB_t.out.1
  have lt_p_e : bP < w1'.heap.size := HB_p.out.1
  have le_e : w.heap.size ≤ w1'.heap.size := HW.out.size
  replace HB_t := Lib.hid (HB_t.out.ext hbz)
  replace HB_p := Lib.hid (HB_p.out.ext hbz)
  replace HW := Lib.hid (ext_trans HW.out hbz)
  clear hbz
  have HB_e := Lib.hid hC
  clear hC
  generalize w1'.heap.size = b_e at *
  have c_t_0 : w2'.cell? ⟨bT, 0, none⟩ = some (.int .i64 2) := HB_t.out.2 0
  have c_t_1 : w2'.cell? ⟨bT, 1, none⟩ = some (.int .i64 (kn : Int)) := HB_t.out.2 1
  have c_t_2 : w2'.cell? ⟨bT, 2, none⟩ = some (.string (showN q)) := HB_t.out.2 2
  have c_t_3 : w2'.cell? ⟨bT, 3, none⟩ = some (.string (showD q)) := HB_t.out.2 3
  have c_e_0 : w2'.cell? ⟨b_e, 0, none⟩ = some (.string (showN (E))) := HB_e.out.2 0
  have c_e_1 : w2'.cell? ⟨b_e, 1, none⟩ = some (.string (showD (E))) := HB_e.out.2 1
  go_wp2_with fail
  refine (times_is E q (E * q) rfl HFE.out HF.out HFM.out w2' (HT0.out.ext HW.out)).mono ?_
  rintro e w3' ⟨rfl, hbz⟩
  replace HB_t := Lib.hid (HB_t.out.ext hbz)
  replace HB_p := Lib.hid (HB_p.out.ext hbz)
  replace HB_e := Lib.hid (HB_e.out.ext hbz)
  replace HW := Lib.hid (ext_trans HW.out hbz)
  clear c_t_0 c_t_1 c_t_2 c_t_3 c_e_0 c_e_1
  clear hbz
  go_wp2_with fail
  refine (whole1 w3' (HT0.out.ext HW.out)).mono ?_
  rintro e w4' ⟨rfl, hbz⟩
  replace HB_t := Lib.hid (HB_t.out.ext hbz)
  replace HB_p := Lib.hid (HB_p.out.ext hbz)
  replace HB_e := Lib.hid (HB_e.out.ext hbz)
  replace HW := Lib.hid (ext_trans HW.out hbz)
  clear hbz
  go_wp2_with fail
  refine (less_is (E * q) 1 r HR.out HFM.out fits1 w4' (HT0.out.ext HW.out)).mono ?_
  rintro e w5' ⟨rfl, hbz⟩
  replace HB_t := Lib.hid (HB_t.out.ext hbz)
  replace HB_p := Lib.hid (HB_p.out.ext hbz)
  replace HB_e := Lib.hid (HB_e.out.ext hbz)
  replace HW := Lib.hid (ext_trans HW.out hbz)
  clear hbz
  go_wp2
  go_ret
  exact ⟨rfl, HW.out⟩
set_option maxRecDepth 100000 in
set_option maxHeartbeats 16000000 in
theorem clo3 (kn : Nat) (q : Rat) (hq : Fits q) (u j p bT bP : Nat) (h1 : 1 ≤ kn) (h5 : kn ≤ 5) (huj : u + j = p) (hp : p ≤ 60) (hm : missF (showN q) (showD q) = 0) (hl : Ln 100 100 q) (w : World) (hT : Box w bT #[.int .i64 3, .int .i64 (kn : Int), .string (showN q), .string (showD q)]) (hP : Box w bP #[.int .i64 (p : Int)]) (ht : Tab w) :
    Calls Tryz.prog 48 #[.int .i64 (u : Int), .pointer (some ⟨bP, 0, none⟩), .pointer (some ⟨bT, 0, none⟩)] w (fun e w' => e = .returned (.bool (!(decide (evR 3 kn u j * q < 1)))) ∧ Below w.heap.size w w') := by
  have hte : testF 3 (kn : Int) (showN q) (showD q) = 0 := by unfold testF; rw [if_neg (by omega), if_neg (by omega)]; exact hm
  have HF := Lib.hid hq
  obtain ⟨E, hE⟩ : ∃ E, evR 3 kn u j = E := ⟨_, rfl⟩
  obtain ⟨r, hr⟩ : ∃ r, decide (E * q < 1) = r := ⟨_, rfl⟩
  have hfe : Ln 2700 1300 E := by rw [← hE]; exact evR_ln h1 h5 (by omega) (by omega)
  have HFE : Hid (Fits E) := Lib.hid (hfe.fits (by omega) (by omega))
  have HFM : Hid (Fits (E * q)) := Lib.hid ((hfe.mul hl).fits (by omega) (by omega))
  have HE : Hid (evF 3 (kn : Int) (showN q) (showD q) (u : Int) (j : Int) = 0 ∧ evN 3 (kn : Int) (showN q) (showD q) (u : Int) (j : Int) = showN E ∧ evD 3 (kn : Int) (showN q) (showD q) (u : Int) (j : Int) = showD E) := by
    have e : evF 3 (kn : Int) (showN q) (showD q) (u : Int) (j : Int) = 0 := by unfold evF; rw [if_neg (fun h => h hte), if_pos (by unfold evOk; omega)]
    refine Lib.hid ⟨e, ?_, ?_⟩
    · unfold evN; rw [if_pos e, ← hE]; rfl
    · unfold evD; rw [if_pos e, ← hE]; rfl
  rw [hE, hr]
  have HR := Lib.hid hr
  have hb9 : -9223372036854775808 ≤ (p : Int) - (u : Int) ∧ (p : Int) - (u : Int) ≤ 9223372036854775807 := by omega
  have hj9 : (p : Int) - (u : Int) = (j : Int) := by omega
  have e9 : IntKind.i64.wrap ((p : Int) - (u : Int)) = (j : Int) := (IntWalk.i64_in _ hb9).trans hj9
  clear hE hr hte hm hl hfe hj9 hb9 hq
  go_enter Tryz.func48, Tryz.ntmps48
  have HT0 := Lib.hid ht
  have HB_t := Lib.hid hT
  have HB_p := Lib.hid hP
  clear ht hT hP
  have c_t_0 : w.cell? ⟨bT, 0, none⟩ = some (.int .i64 3) := HB_t.out.2 0
  have c_t_1 : w.cell? ⟨bT, 1, none⟩ = some (.int .i64 (kn : Int)) := HB_t.out.2 1
  have c_t_2 : w.cell? ⟨bT, 2, none⟩ = some (.string (showN q)) := HB_t.out.2 2
  have c_t_3 : w.cell? ⟨bT, 3, none⟩ = some (.string (showD q)) := HB_t.out.2 3
  have c_p_0 : w.cell? ⟨bP, 0, none⟩ = some (.int .i64 (p : Int)) := HB_p.out.2 0
  go_upto_region 1 with (fail)
  go_quiet (fail)
  have hbz : Below w.heap.size w (w.drewN nq) := below_drewN (Below.refl _ _) nq
  generalize w.drewN nq = Y at *
  replace HB_t := Lib.hid (HB_t.out.ext hbz)
  replace HB_p := Lib.hid (HB_p.out.ext hbz)
  have HW := Lib.hid hbz
  clear c_t_0 c_t_1 c_t_2 c_t_3 c_p_0
  clear hbz
  have c_t_0 : Y.cell? ⟨bT, 0, none⟩ = some (.int .i64 3) := HB_t.out.2 0
  have c_t_1 : Y.cell? ⟨bT, 1, none⟩ = some (.int .i64 (kn : Int)) := HB_t.out.2 1
  have c_t_2 : Y.cell? ⟨bT, 2, none⟩ = some (.string (showN q)) := HB_t.out.2 2
  have c_t_3 : Y.cell? ⟨bT, 3, none⟩ = some (.string (showD q)) := HB_t.out.2 3
  have c_p_0 : Y.cell? ⟨bP, 0, none⟩ = some (.int .i64 (p : Int)) := HB_p.out.2 0
  go_wp2_with fail
  refine (progEvidence_is 3 (kn : Int) (showN q) (showD q) (show_size HF.out).1 (show_size HF.out).2 _ _ (u : Int) (j : Int) rfl rfl Y).mono ?_
  rintro e w1' ⟨rfl, hbz⟩
  rw [HE.out.1, HE.out.2.1, HE.out.2.2]
  replace HB_t := Lib.hid (HB_t.out.ext hbz)
  replace HB_p := Lib.hid (HB_p.out.ext hbz)
  replace HW := Lib.hid (ext_trans HW.out hbz)
  clear c_t_0 c_t_1 c_t_2 c_t_3 c_p_0
  clear hbz
  clear e9
  go_upto_region 5 with (fail)
  refine wp_box1 fun w2' hsz hbz hC => ?_
  clear hsz
  have lt_t_e : bT < w1'.heap.size := HB_t.out.1
  have lt_p_e : bP < w1'.heap.size := HB_p.out.1
  have le_e : w.heap.size ≤ w1'.heap.size := HW.out.size
  replace HB_t := Lib.hid (HB_t.out.ext hbz)
  replace HB_p := Lib.hid (HB_p.out.ext hbz)
  replace HW := Lib.hid (ext_trans HW.out hbz)
  clear hbz
  have HB_e := Lib.hid hC
  clear hC
  generalize w1'.heap.size = b_e at *
  have c_t_0 : w2'.cell? ⟨bT, 0, none⟩ = some (.int .i64 3) := HB_t.out.2 0
  have c_t_1 : w2'.cell? ⟨bT, 1, none⟩ = some (.int .i64 (kn : Int)) := HB_t.out.2 1
  have c_t_2 : w2'.cell? ⟨bT, 2, none⟩ = some (.string (showN q)) := HB_t.out.2 2
  have c_t_3 : w2'.cell? ⟨bT, 3, none⟩ = some (.string (showD q)) := HB_t.out.2 3
  have c_e_0 : w2'.cell? ⟨b_e, 0, none⟩ = some (.string (showN (E))) := HB_e.out.2 0
  have c_e_1 : w2'.cell? ⟨b_e, 1, none⟩ = some (.string (showD (E))) := HB_e.out.2 1
  go_wp2_with fail
  refine (times_is E q (E * q) rfl HFE.out HF.out HFM.out w2' (HT0.out.ext HW.out)).mono ?_
  rintro e w3' ⟨rfl, hbz⟩
  replace HB_t := Lib.hid (HB_t.out.ext hbz)
  replace HB_p := Lib.hid (HB_p.out.ext hbz)
  replace HB_e := Lib.hid (HB_e.out.ext hbz)
  replace HW := Lib.hid (ext_trans HW.out hbz)
  clear c_t_0 c_t_1 c_t_2 c_t_3 c_e_0 c_e_1
  clear hbz
  go_wp2_with fail
  refine (whole1 w3' (HT0.out.ext HW.out)).mono ?_
  rintro e w4' ⟨rfl, hbz⟩
  replace HB_t := Lib.hid (HB_t.out.ext hbz)
  replace HB_p := Lib.hid (HB_p.out.ext hbz)
  replace HB_e := Lib.hid (HB_e.out.ext hbz)
  replace HW := Lib.hid (ext_trans HW.out hbz)
  clear hbz
  go_wp2_with fail
  refine (less_is (E * q) 1 r HR.out HFM.out fits1 w4' (HT0.out.ext HW.out)).mono ?_
  rintro e w5' ⟨rfl, hbz⟩
  replace HB_t := Lib.hid (HB_t.out.ext hbz)
  replace HB_p := Lib.hid (HB_p.out.ext hbz)
  replace HB_e := Lib.hid (HB_e.out.ext hbz)
  replace HW := Lib.hid (ext_trans HW.out hbz)
  clear hbz
  go_wp2
  go_ret
  exact ⟨rfl, HW.out⟩
theorem clo_at (d : Int) (d1 : 1 ≤ d) (d3 : d ≤ 3) (kn : Nat) (q : Rat) (hq : Fits q) (u p bT bP : Nat) (h1 : 1 ≤ kn) (h5 : kn ≤ 5) (hu : u ≤ p) (hp : p ≤ 60) (hm : missF (showN q) (showD q) = 0) (h0 : 0 < q) (hl : Ln 100 100 q) (z : Int) (hz : z = (u : Int)) (r : Bool) (hr : lnDec d kn q⁻¹ p u = r) (w : World) (hT : Box w bT #[.int .i64 d, .int .i64 (kn : Int), .string (showN q), .string (showD q)]) (hP : Box w bP #[.int .i64 (p : Int)]) (ht : Tab w) :
    Calls Tryz.prog 48 #[.int .i64 z, .pointer (some ⟨bP, 0, none⟩), .pointer (some ⟨bT, 0, none⟩)] w (fun e w' => e = .returned (.bool r) ∧ Below w.heap.size w w') := by
  subst hz
  have e : r = !(decide (evR d kn (if d = 2 then p - u else u) (if d = 2 then u else p - u) * q < 1)) := by
    rw [← hr]; exact dec_enough d1 d3 h1 h0 _ _
  rw [e]
  obtain rfl | rfl | rfl : d = 1 ∨ d = 2 ∨ d = 3 := by omega
  · exact clo1 kn q hq u (p - u) p bT bP h1 h5 (by omega) hp hm hl w hT hP ht
  · exact clo2 kn q hq u (p - u) p bT bP h1 h5 (by omega) hp hm hl w hT hP ht
  · exact clo3 kn q hq u (p - u) p bT bP h1 h5 (by omega) hp hm hl w hT hP ht
set_option maxRecDepth 100000 in
set_option maxHeartbeats 16000000 in
theorem walk (d k : Int) (n m : ByteArray) (hn : n.size ≤ maxLen) (hm : m.size ≤ maxLen) (p : Int) (w : World) (ht : Tab w) :
    Calls Tryz.prog 7 #[.agg #[.int .i64 d, .int .i64 k, .string n, .string m], .int .i64 p] w fun e w' => e = .returned (.bool true) ∧ Below w.heap.size w w' := by
  go_enter Tryz.func7, Tryz.ntmps7
  have HT0 := Lib.hid ht
  clear ht
  go_upto_region 1 with (fail)
  refine wp_box2 fun w1' hsz hbW hA0 hA1 => ?_
  clear hsz
  have HB_t := Lib.hid hA0
  have HB_p := Lib.hid hA1
  have HW := Lib.hid hbW
  clear hbW hA0 hA1
  have c_t_0 : w1'.cell? ⟨w.heap.size, 0, none⟩ = some (.int .i64 d) := HB_t.out.2 0
  have c_t_1 : w1'.cell? ⟨w.heap.size, 1, none⟩ = some (.int .i64 k) := HB_t.out.2 1
  have c_t_2 : w1'.cell? ⟨w.heap.size, 2, none⟩ = some (.string n) := HB_t.out.2 2
  have c_t_3 : w1'.cell? ⟨w.heap.size, 3, none⟩ = some (.string m) := HB_t.out.2 3
  have c_p_0 : w1'.cell? ⟨(w.heap.size + 1), 0, none⟩ = some (.int .i64 p) := HB_p.out.2 0
  go_wp2_with fail
  refine (progLine_at d k n m hn hm p w1').mono ?_
  rintro e w2' ⟨rfl, hbz⟩
  replace HB_t := Lib.hid (HB_t.out.ext hbz)
  replace HB_p := Lib.hid (HB_p.out.ext hbz)
  replace HW := Lib.hid (ext_trans HW.out hbz)
  clear c_t_0 c_t_1 c_t_2 c_t_3 c_p_0
  clear hbz
  by_cases hf : lnF d k n m p = 0
  · have hne : (lnF d k n m p != 0) = false := by simp [hf]
    have hfs := hf
    unfold lnF at hfs
    have htf : testF d k n m = 0 := by
      by_cases h : testF d k n m = 0
      · exact h
      · rw [if_pos h] at hfs; exact absurd hfs h
    have hp : 0 ≤ p ∧ p ≤ 60 := by
      rw [if_neg (fun h => h htf)] at hfs
      by_cases h : 0 ≤ p ∧ p ≤ 60
      · exact h
      · rw [if_neg h] at hfs; cases hfs
    obtain ⟨d1, d3, k1, k5, hmi⟩ := test_ok htf
    obtain ⟨hp0, hp60⟩ := hp
    obtain ⟨q, hq, hrq, rfl, rfl, h0, h1q, hlq⟩ := miss_parts hmi
    obtain ⟨kn, rfl⟩ : ∃ x : Nat, k = (x : Int) := ⟨k.toNat, by omega⟩
    obtain ⟨pn, rfl⟩ : ∃ x : Nat, p = (x : Int) := ⟨p.toNat, by omega⟩
    have ho : lnO d (kn : Int) (showN q) (showD q) (pn : Int) = lnFind (lnDec d kn q⁻¹ pn) (lnFrom d pn) (pn + 1 - lnFrom d pn) := by unfold lnO; rw [if_pos hf, hrq]; rfl
    rw [ho]
    have hfl := lnFrom_le d pn
    obtain ⟨o, hoo⟩ : ∃ o, lnFind (lnDec d kn q⁻¹ pn) (lnFrom d pn) (pn + 1 - lnFrom d pn) = o := ⟨_, rfl⟩
    rw [hoo]
    have hk1 : 1 ≤ kn := by omega
    have hk5 : kn ≤ 5 := by omega
    have hpn : pn ≤ 60 := by omega
    have HCL : Hid (∀ (u : Nat) (z : Int) (r : Bool) (w' : World), u ≤ pn → z = (u : Int) → lnDec d kn q⁻¹ pn u = r → Box w' w.heap.size #[.int .i64 d, .int .i64 (kn : Int), .string (showN q), .string (showD q)] → Box w' (w.heap.size + 1) #[.int .i64 (pn : Int)] → Tab w' → Calls Tryz.prog 48 #[.int .i64 z, .pointer (some ⟨w.heap.size + 1, 0, none⟩), .pointer (some ⟨w.heap.size, 0, none⟩)] w' (fun e w'' => e = .returned (.bool r) ∧ Below w'.heap.size w' w'')) := Lib.hid fun u z r w' hu hz hr hT hP ht' => clo_at d d1 d3 kn q hq u pn _ _ hk1 hk5 hu hpn hmi h0 hlq z hz r hr w' hT hP ht'
    have HOO := Lib.hid hoo
    have HD := Lib.hid (And.intro d1 d3)
    clear hfs htf k1 k5 hmi hp0 hp60 hq hrq h0 h1q hlq ho hoo d1 d3
    have hf9 : (lnF d (kn : Int) (showN q) (showD q) (pn : Int) == 0) = true := by simp [hf]
    clear hf
    cases o with
    | none =>
      have hn0 : lnN none = 0 := rfl
      have hk0 : lnK none = false := rfl
      rw [hn0, hk0]
      clear hn0 hk0
      have c_p_0 : w2'.cell? ⟨(w.heap.size + 1), 0, none⟩ = some (.int .i64 (pn : Int)) := HB_p.out.2 0
      go_wp2_with fail
      refine (HCL.out pn _ false w2' (Nat.le_refl _) rfl (lnFind_none HOO.out pn hfl (by omega)) HB_t.out HB_p.out (HT0.out.ext HW.out)).mono ?_
      rintro e w3' ⟨rfl, hbz⟩
      replace HB_t := Lib.hid (HB_t.out.ext hbz)
      replace HB_p := Lib.hid (HB_p.out.ext hbz)
      replace HW := Lib.hid (ext_trans HW.out hbz)
      clear c_p_0
      clear hbz
      go_wp2
      go_ret
      exact ⟨by simp, HW.out⟩
    | some i =>
      have hn0 : lnN (some i) = (i : Int) := rfl
      have hk0 : lnK (some i) = true := rfl
      rw [hn0, hk0]
      clear hn0 hk0
      obtain ⟨g1, g2, g3, g4⟩ := lnFind_some HOO.out
      have hip : i ≤ pn := by omega
      have HG := Lib.hid (And.intro g3 g4)
      clear g2 g3 g4
      have hd3 := HD.out
      obtain rfl | rfl | rfl : d = 1 ∨ d = 2 ∨ d = 3 := by omega
      · clear hd3
        have HFR : Hid (∀ j, 0 ≤ j → j < i → lnDec 1 kn q⁻¹ pn j = false) := Lib.hid (fun j h1 h2 => HG.out.2 j h1 h2)
        clear g1
        have c_t_0 : w2'.cell? ⟨w.heap.size, 0, none⟩ = some (.int .i64 1) := HB_t.out.2 0
        have c_t_1 : w2'.cell? ⟨w.heap.size, 1, none⟩ = some (.int .i64 (kn : Int)) := HB_t.out.2 1
        have c_t_2 : w2'.cell? ⟨w.heap.size, 2, none⟩ = some (.string (showN q)) := HB_t.out.2 2
        have c_t_3 : w2'.cell? ⟨w.heap.size, 3, none⟩ = some (.string (showD q)) := HB_t.out.2 3
        have c_p_0 : w2'.cell? ⟨(w.heap.size + 1), 0, none⟩ = some (.int .i64 (pn : Int)) := HB_p.out.2 0
        go_wp2_with fail
        refine (HCL.out i _ true w2' hip rfl HG.out.1 HB_t.out HB_p.out (HT0.out.ext HW.out)).mono ?_
        rintro e w3' ⟨rfl, hbz⟩
        replace HB_t := Lib.hid (HB_t.out.ext hbz)
        replace HB_p := Lib.hid (HB_p.out.ext hbz)
        replace HW := Lib.hid (ext_trans HW.out hbz)
        clear c_t_0 c_t_1 c_t_2 c_t_3 c_p_0
        clear hbz
        by_cases hif : i = 0
        · subst hif
          go_wp2
          go_ret
          exact ⟨by simp, HW.out⟩
        · obtain ⟨i9, rfl⟩ : ∃ x, i = x + 1 := ⟨i - 1, by omega⟩
          have hne9 : ((((i9 + 1 : Nat) : Int)) == ((0 : Nat) : Int)) = false := by rw [beq_eq_false_iff_ne]; omega
          have hge9 : decide ((((i9 + 1 : Nat) : Int)) ≥ ((0 : Nat) : Int)) = true := decide_eq_true (by omega)
          have h9 : i9 ≤ pn := by omega
          have HDF : Hid (lnDec 1 kn q⁻¹ pn i9 = false) := Lib.hid (HFR.out i9 (by omega) (by omega))
          have e9 : IntKind.i64.wrap (((i9 + 1 : Nat) : Int) - 1) = (i9 : Int) := by rw [IntWalk.i64_in _ (by omega)]; omega
          go_wp2_with fail
          refine (HCL.out i9 _ false w3' h9 (by omega) HDF.out HB_t.out HB_p.out (HT0.out.ext HW.out)).mono ?_
          rintro e w4' ⟨rfl, hbz⟩
          replace HB_t := Lib.hid (HB_t.out.ext hbz)
          replace HB_p := Lib.hid (HB_p.out.ext hbz)
          replace HW := Lib.hid (ext_trans HW.out hbz)
          clear hbz
          go_wp2
          go_ret
          exact ⟨by simp, HW.out⟩
      · clear hd3
        have HFR : Hid (∀ j, 0 ≤ j → j < i → lnDec 2 kn q⁻¹ pn j = false) := Lib.hid (fun j h1 h2 => HG.out.2 j h1 h2)
        clear g1
        have c_t_0 : w2'.cell? ⟨w.heap.size, 0, none⟩ = some (.int .i64 2) := HB_t.out.2 0
        have c_t_1 : w2'.cell? ⟨w.heap.size, 1, none⟩ = some (.int .i64 (kn : Int)) := HB_t.out.2 1
        have c_t_2 : w2'.cell? ⟨w.heap.size, 2, none⟩ = some (.string (showN q)) := HB_t.out.2 2
        have c_t_3 : w2'.cell? ⟨w.heap.size, 3, none⟩ = some (.string (showD q)) := HB_t.out.2 3
        have c_p_0 : w2'.cell? ⟨(w.heap.size + 1), 0, none⟩ = some (.int .i64 (pn : Int)) := HB_p.out.2 0
        go_wp2_with fail
        refine (HCL.out i _ true w2' hip rfl HG.out.1 HB_t.out HB_p.out (HT0.out.ext HW.out)).mono ?_
        rintro e w3' ⟨rfl, hbz⟩
        replace HB_t := Lib.hid (HB_t.out.ext hbz)
        replace HB_p := Lib.hid (HB_p.out.ext hbz)
        replace HW := Lib.hid (ext_trans HW.out hbz)
        clear c_t_0 c_t_1 c_t_2 c_t_3 c_p_0
        clear hbz
        by_cases hif : i = 0
        · subst hif
          go_wp2
          go_ret
          exact ⟨by simp, HW.out⟩
        · obtain ⟨i9, rfl⟩ : ∃ x, i = x + 1 := ⟨i - 1, by omega⟩
          have hne9 : ((((i9 + 1 : Nat) : Int)) == ((0 : Nat) : Int)) = false := by rw [beq_eq_false_iff_ne]; omega
          have hge9 : decide ((((i9 + 1 : Nat) : Int)) ≥ ((0 : Nat) : Int)) = true := decide_eq_true (by omega)
          have h9 : i9 ≤ pn := by omega
          have HDF : Hid (lnDec 2 kn q⁻¹ pn i9 = false) := Lib.hid (HFR.out i9 (by omega) (by omega))
          have e9 : IntKind.i64.wrap (((i9 + 1 : Nat) : Int) - 1) = (i9 : Int) := by rw [IntWalk.i64_in _ (by omega)]; omega
          go_wp2_with fail
          refine (HCL.out i9 _ false w3' h9 (by omega) HDF.out HB_t.out HB_p.out (HT0.out.ext HW.out)).mono ?_
          rintro e w4' ⟨rfl, hbz⟩
          replace HB_t := Lib.hid (HB_t.out.ext hbz)
          replace HB_p := Lib.hid (HB_p.out.ext hbz)
          replace HW := Lib.hid (ext_trans HW.out hbz)
          clear hbz
          go_wp2
          go_ret
          exact ⟨by simp, HW.out⟩
      · clear hd3
        obtain ⟨fr, hfr⟩ : ∃ x, lnFrom 3 pn = x := ⟨_, rfl⟩
        have hfr2 : (pn + 1) / 2 = fr := hfr
        rw [hfr] at g1
        have HFR : Hid (∀ j, fr ≤ j → j < i → lnDec 3 kn q⁻¹ pn j = false) := Lib.hid (by rw [← hfr]; exact HG.out.2)
        have e2 : ((pn : Int) + 1).tdiv 2 = (fr : Int) := by rw [Int.tdiv_eq_ediv_of_nonneg (by omega)]; omega
        have e1 : IntKind.i64.wrap ((pn : Int) + 1) = (pn : Int) + 1 := IntWalk.i64_in _ (by omega)
        have c_t_0 : w2'.cell? ⟨w.heap.size, 0, none⟩ = some (.int .i64 3) := HB_t.out.2 0
        have c_t_1 : w2'.cell? ⟨w.heap.size, 1, none⟩ = some (.int .i64 (kn : Int)) := HB_t.out.2 1
        have c_t_2 : w2'.cell? ⟨w.heap.size, 2, none⟩ = some (.string (showN q)) := HB_t.out.2 2
        have c_t_3 : w2'.cell? ⟨w.heap.size, 3, none⟩ = some (.string (showD q)) := HB_t.out.2 3
        have c_p_0 : w2'.cell? ⟨(w.heap.size + 1), 0, none⟩ = some (.int .i64 (pn : Int)) := HB_p.out.2 0
        go_wp2_with fail
        refine (HCL.out i _ true w2' hip rfl HG.out.1 HB_t.out HB_p.out (HT0.out.ext HW.out)).mono ?_
        rintro e w3' ⟨rfl, hbz⟩
        replace HB_t := Lib.hid (HB_t.out.ext hbz)
        replace HB_p := Lib.hid (HB_p.out.ext hbz)
        replace HW := Lib.hid (ext_trans HW.out hbz)
        clear c_t_0 c_t_1 c_t_2 c_t_3 c_p_0
        clear hbz
        clear e1 e2 hfr hfr2
        by_cases hif : i = fr
        · subst hif
          go_wp2
          go_ret
          exact ⟨by simp, HW.out⟩
        · obtain ⟨i9, rfl⟩ : ∃ x, i = x + 1 := ⟨i - 1, by omega⟩
          have hne9 : ((((i9 + 1 : Nat) : Int)) == ((fr : Nat) : Int)) = false := by rw [beq_eq_false_iff_ne]; omega
          have hge9 : decide ((((i9 + 1 : Nat) : Int)) ≥ ((fr : Nat) : Int)) = true := decide_eq_true (by omega)
          have h9 : i9 ≤ pn := by omega
          have HDF : Hid (lnDec 3 kn q⁻¹ pn i9 = false) := Lib.hid (HFR.out i9 (by omega) (by omega))
          have e9 : IntKind.i64.wrap (((i9 + 1 : Nat) : Int) - 1) = (i9 : Int) := by rw [IntWalk.i64_in _ (by omega)]; omega
          go_wp2_with fail
          refine (HCL.out i9 _ false w3' h9 (by omega) HDF.out HB_t.out HB_p.out (HT0.out.ext HW.out)).mono ?_
          rintro e w4' ⟨rfl, hbz⟩
          replace HB_t := Lib.hid (HB_t.out.ext hbz)
          replace HB_p := Lib.hid (HB_p.out.ext hbz)
          replace HW := Lib.hid (ext_trans HW.out hbz)
          clear hbz
          go_wp2
          go_ret
          exact ⟨by simp, HW.out⟩
  · have ho : lnO d k n m p = none := by unfold lnO; rw [if_neg hf]
    rw [ho]
    have hne : (lnF d k n m p != 0) = true := by simp [hf]
    clear hf ho
    have hn0 : lnN none = 0 := rfl
    have hk0 : lnK none = false := rfl
    rw [hn0, hk0]
    clear hn0 hk0
    go_wp2
    go_ret
    exact ⟨by simp, HW.out⟩
end Go.Proofs.YtmnmepbljegjeaaGreatDoor.lawLine
