/- evidence and Evidence of the reference, Evidence of the program: the same texts. Printed by gen_revid.py. -/
import Derived.Test.YtmnmepbljegjeaaGreatDoorBa37
namespace Go.Proofs.YtmnmepbljegjeaaGreatDoor
open Go.RowKit
namespace Nm
theorem evR_ln {d : Int} {bets up down : Nat} (h1 : 1 ≤ bets) (hb : bets ≤ 5) (hu : up ≤ 60) (hd : down ≤ 60) : Ln 2700 1300 (evR d bets up down) := by
  have a := side_ln h1 hb hu hd
  have b := side_ln h1 hb hd hu
  unfold evR
  split
  · exact a.mono (by omega) (by omega)
  · split
    · exact b.mono (by omega) (by omega)
    · exact ((a.add b).div (Ln.nat (n := 2) (a := 1) (by decide)) (by decide)).mono (by omega) (by omega)
theorem evR_fits {d : Int} {bets up down : Nat} (h1 : 1 ≤ bets) (hb : bets ≤ 5) (hu : up ≤ 60) (hd : down ≤ 60) : Fits (evR d bets up down) := (evR_ln h1 hb hu hd).fits (by omega) (by omega)
/-- right numbers of pairs -/
def evOk (up down : Int) : Prop := 0 ≤ up ∧ up ≤ 60 ∧ 0 ≤ down ∧ down ≤ 60 ∧ up + down ≤ 60
instance (up down : Int) : Decidable (evOk up down) := by unfold evOk; exact inferInstance
def evF (d k : Int) (n m : ByteArray) (up down : Int) : Int := if testF d k n m ≠ 0 then testF d k n m else if evOk up down then 0 else 1
def evN (d k : Int) (n m : ByteArray) (up down : Int) : ByteArray := if evF d k n m up down = 0 then showN (evR d k.toNat up.toNat down.toNat) else ⟨#[]⟩
def evD (d k : Int) (n m : ByteArray) (up down : Int) : ByteArray := if evF d k n m up down = 0 then showD (evR d k.toNat up.toNat down.toNat) else ⟨#[]⟩
theorem test_ok {d k : Int} {n m : ByteArray} (h : testF d k n m = 0) : 1 ≤ d ∧ d ≤ 3 ∧ 1 ≤ k ∧ k ≤ 5 ∧ missF n m = 0 := by
  unfold testF at h
  by_cases h1 : 1 ≤ d ∧ d ≤ 3
  · rw [if_neg (fun h => h h1)] at h
    by_cases h2 : 1 ≤ k ∧ k ≤ 5
    · rw [if_neg (fun h => h h2)] at h
      exact ⟨h1.1, h1.2, h2.1, h2.2, h⟩
    · rw [if_pos h2] at h; cases h
  · rw [if_pos h1] at h; cases h
end Nm
namespace Nt
open _root_.Go.Proofs.YtmnmepbljegjeaaGreatDoor.Nm (showN showD outN outD outF out_fits Fits sideR evR evR_fits side_ln evOk evF evN evD testF test_ok AnsPost Ln readTest_at evidence_at ev_small ratio_at evQ_real evQ rQ betA)
theorem side_is (a b c : Int) (bets up down : Nat) (q : Rat) (hq : sideR bets up down = q) (ha : a = (bets : Int)) (hb : b = (up : Int)) (hc : c = (down : Int)) (h1 : 1 ≤ bets) (h5 : bets ≤ 5) (hu : up ≤ 60) (hd : down ≤ 60) (w : World) (ht : Tab w) :
    Calls Tryz.prog 172 #[.int .i64 a, .int .i64 b, .int .i64 c] w (RtP w q) := by subst ha; subst hb; subst hc; subst hq; exact side_at bets up down h1 h5 hu hd w ht
set_option maxRecDepth 100000 in
set_option maxHeartbeats 8000000 in
theorem evid1 (bets up down : Nat) (n m : ByteArray) (h1 : 1 ≤ bets) (h5 : bets ≤ 5) (hu : up ≤ 60) (hd : down ≤ 60) (w : World) (ht : Tab w) : Calls Tryz.prog 113 #[.agg #[.int .i64 1, .int .i64 (bets : Int), .string n, .string m], .int .i64 (up : Int), .int .i64 (down : Int)] w (RtP w (evR 1 bets up down)) := by
  obtain ⟨Q, hq⟩ : ∃ Q, evR 1 bets up down = Q := ⟨_, rfl⟩
  have HFq : Hid (Fits Q) := Lib.hid (hq ▸ evR_fits h1 h5 hu hd)
  have HQ : Hid (sideR bets up down = Q) := Lib.hid (by rw [← hq]; rfl)
  have HF1 : Hid (Fits (sideR bets up down)) := Lib.hid ((side_ln h1 h5 hu hd).fits (by omega) (by omega))
  have HF2 : Hid (Fits (sideR bets down up)) := Lib.hid ((side_ln h1 h5 hd hu).fits (by omega) (by omega))
  have HF3 : Hid (Fits (sideR bets up down + sideR bets down up)) := Lib.hid (((side_ln h1 h5 hu hd).add (side_ln h1 h5 hd hu)).fits (by omega) (by omega))
  rw [hq]
  clear hq
  go_enter Tryz.func113, Tryz.ntmps113
  have HT0 := Lib.hid ht
  clear ht
  go_upto_region 1 with (fail)
  refine wp_box2r fun w1' hsz hbW hA0 hC hF => ?_
  clear hsz
  have HB_t := Lib.hid hA0
  have HB_res := Lib.hid hC
  have HF_res := Lib.hid hF
  have HW := Lib.hid hbW
  clear hbW hA0 hC hF
  have c_t_0 : w1'.cell? ⟨w.heap.size, 0, none⟩ = some (.int .i64 1) := HB_t.out.2 0
  have c_t_1 : w1'.cell? ⟨w.heap.size, 1, none⟩ = some (.int .i64 (bets : Int)) := HB_t.out.2 1
  have c_t_2 : w1'.cell? ⟨w.heap.size, 2, none⟩ = some (.string n) := HB_t.out.2 2
  have c_t_3 : w1'.cell? ⟨w.heap.size, 3, none⟩ = some (.string m) := HB_t.out.2 3
  go_wp2_with fail
  refine (side_is _ _ _ bets up down _ HQ.out rfl rfl rfl h1 h5 hu hd w1' (HT0.out.ext HW.out)).mono ?_
  rintro e w2' ⟨rfl, hbz⟩
  replace HB_t := Lib.hid (HB_t.out.ext hbz)
  replace HF_res := Lib.hid (HF_res.out.ext HB_res.out hbz)
  replace HB_res := Lib.hid (HB_res.out.ext hbz)
  replace HW := Lib.hid (ext_trans HW.out hbz)
  clear c_t_0 c_t_1 c_t_2 c_t_3
  clear hbz
  have c_res_0 : w2'.cell? ⟨w.heap.size + 1, 0, none⟩ = some (.string ⟨#[]⟩) := HB_res.out.2 0
  have c_res_1 : w2'.cell? ⟨w.heap.size + 1, 1, none⟩ = some (.string ⟨#[]⟩) := HB_res.out.2 1
  have f_res_0 := HF_res.out 0
  have f_res_1 := HF_res.out 1
  have HR := Lib.hid (res2s (.string (showN (Q))) (.string (showD (Q))) HB_res.out HW.out (show w.heap.size ≤ w.heap.size + 1 by omega))
  obtain ⟨hbF, z0, z1⟩ := id HR.out
  clear hbF
  go_wp2
  exact bodyPost_ret (v := rtV Q) (by simp [results, Tryz.results113, go_sem, z0, z1]) rfl ⟨rfl, HR.out.1⟩
set_option maxRecDepth 100000 in
set_option maxHeartbeats 8000000 in
theorem evid2 (bets up down : Nat) (n m : ByteArray) (h1 : 1 ≤ bets) (h5 : bets ≤ 5) (hu : up ≤ 60) (hd : down ≤ 60) (w : World) (ht : Tab w) : Calls Tryz.prog 113 #[.agg #[.int .i64 2, .int .i64 (bets : Int), .string n, .string m], .int .i64 (up : Int), .int .i64 (down : Int)] w (RtP w (evR 2 bets up down)) := by
  obtain ⟨Q, hq⟩ : ∃ Q, evR 2 bets up down = Q := ⟨_, rfl⟩
  have HFq : Hid (Fits Q) := Lib.hid (hq ▸ evR_fits h1 h5 hu hd)
  have HQ : Hid (sideR bets down up = Q) := Lib.hid (by rw [← hq]; rfl)
  have HF1 : Hid (Fits (sideR bets up down)) := Lib.hid ((side_ln h1 h5 hu hd).fits (by omega) (by omega))
  have HF2 : Hid (Fits (sideR bets down up)) := Lib.hid ((side_ln h1 h5 hd hu).fits (by omega) (by omega))
  have HF3 : Hid (Fits (sideR bets up down + sideR bets down up)) := Lib.hid (((side_ln h1 h5 hu hd).add (side_ln h1 h5 hd hu)).fits (by omega) (by omega))
  rw [hq]
  clear hq
  go_enter Tryz.func113, Tryz.ntmps113
  have HT0 := Lib.hid ht
  clear ht
  go_upto_region 1 with (fail)
  refine wp_box2r fun w1' hsz hbW hA0 hC hF => ?_
  clear hsz
  have HB_t := Lib.hid hA0
  have HB_res := Lib.hid hC
  have HF_res := Lib.hid hF
  have HW := Lib.hid hbW
  clear hbW hA0 hC hF
  have c_t_0 : w1'.cell? ⟨w.heap.size, 0, none⟩ = some (.int .i64 2) := HB_t.out.2 0
  have c_t_1 : w1'.cell? ⟨w.heap.size, 1, none⟩ = some (.int .i64 (bets : Int)) := HB_t.out.2 1
  have c_t_2 : w1'.cell? ⟨w.heap.size, 2, none⟩ = some (.string n) := HB_t.out.2 2
  have c_t_3 : w1'.cell? ⟨w.heap.size, 3, none⟩ = some (.string m) := HB_t.out.2 3
  go_wp2_with fail
  refine (side_is _ _ _ bets down up _ HQ.out rfl rfl rfl h1 h5 hd hu w1' (HT0.out.ext HW.out)).mono ?_
  rintro e w2' ⟨rfl, hbz⟩
  replace HB_t := Lib.hid (HB_t.out.ext hbz)
  replace HF_res := Lib.hid (HF_res.out.ext HB_res.out hbz)
  replace HB_res := Lib.hid (HB_res.out.ext hbz)
  replace HW := Lib.hid (ext_trans HW.out hbz)
  clear c_t_0 c_t_1 c_t_2 c_t_3
  clear hbz
  have c_res_0 : w2'.cell? ⟨w.heap.size + 1, 0, none⟩ = some (.string ⟨#[]⟩) := HB_res.out.2 0
  have c_res_1 : w2'.cell? ⟨w.heap.size + 1, 1, none⟩ = some (.string ⟨#[]⟩) := HB_res.out.2 1
  have f_res_0 := HF_res.out 0
  have f_res_1 := HF_res.out 1
  have HR := Lib.hid (res2s (.string (showN (Q))) (.string (showD (Q))) HB_res.out HW.out (show w.heap.size ≤ w.heap.size + 1 by omega))
  obtain ⟨hbF, z0, z1⟩ := id HR.out
  clear hbF
  go_wp2
  exact bodyPost_ret (v := rtV Q) (by simp [results, Tryz.results113, go_sem, z0, z1]) rfl ⟨rfl, HR.out.1⟩
set_option maxRecDepth 100000 in
set_option maxHeartbeats 8000000 in
theorem evid3 (bets up down : Nat) (n m : ByteArray) (h1 : 1 ≤ bets) (h5 : bets ≤ 5) (hu : up ≤ 60) (hd : down ≤ 60) (w : World) (ht : Tab w) : Calls Tryz.prog 113 #[.agg #[.int .i64 3, .int .i64 (bets : Int), .string n, .string m], .int .i64 (up : Int), .int .i64 (down : Int)] w (RtP w (evR 3 bets up down)) := by
  obtain ⟨Q, hq⟩ : ∃ Q, evR 3 bets up down = Q := ⟨_, rfl⟩
  have HFq : Hid (Fits Q) := Lib.hid (hq ▸ evR_fits h1 h5 hu hd)
  have HQ : Hid ((sideR bets up down + sideR bets down up) / 2 = Q) := Lib.hid (by rw [← hq]; rfl)
  have HF1 : Hid (Fits (sideR bets up down)) := Lib.hid ((side_ln h1 h5 hu hd).fits (by omega) (by omega))
  have HF2 : Hid (Fits (sideR bets down up)) := Lib.hid ((side_ln h1 h5 hd hu).fits (by omega) (by omega))
  have HF3 : Hid (Fits (sideR bets up down + sideR bets down up)) := Lib.hid (((side_ln h1 h5 hu hd).add (side_ln h1 h5 hd hu)).fits (by omega) (by omega))
  rw [hq]
  clear hq
  go_enter Tryz.func113, Tryz.ntmps113
  have HT0 := Lib.hid ht
  clear ht
  go_upto_region 1 with (fail)
  refine wp_box2r fun w1' hsz hbW hA0 hC hF => ?_
  clear hsz
  have HB_t := Lib.hid hA0
  have HB_res := Lib.hid hC
  have HF_res := Lib.hid hF
  have HW := Lib.hid hbW
  clear hbW hA0 hC hF
  have c_t_0 : w1'.cell? ⟨w.heap.size, 0, none⟩ = some (.int .i64 3) := HB_t.out.2 0
  have c_t_1 : w1'.cell? ⟨w.heap.size, 1, none⟩ = some (.int .i64 (bets : Int)) := HB_t.out.2 1
  have c_t_2 : w1'.cell? ⟨w.heap.size, 2, none⟩ = some (.string n) := HB_t.out.2 2
  have c_t_3 : w1'.cell? ⟨w.heap.size, 3, none⟩ = some (.string m) := HB_t.out.2 3
  go_upto_region 6 with (fail)
  refine Grow.wp_region_grow 13 [TP.eq (.pointer (some ⟨w.heap.size, 1, none⟩)), TP.eq (.int .i64 (bets : Int)), TP.eq (.int .i64 (up : Int)), TP.eq (.int .i64 (down : Int)), TP.eq (rtV (sideR bets up down)), TP.eq (.pointer (some ⟨w.heap.size, 1, none⟩)), TP.eq (.int .i64 (bets : Int)), TP.eq (.int .i64 (down : Int)), TP.eq (.int .i64 (up : Int)), TP.eq (rtV (sideR bets down up)), TP.eq (rtV (sideR bets up down + sideR bets down up)), TP.eq (rtV 2), TP.eq (rtV Q)] [[], [0], [], [], [1, 2, 3], [], [5], [], [], [6, 7, 8], [4, 9], [], [10, 11]] (by kernel_rfl) (by kernel_rfl) ⟨?o0z, ?o1z, ?o2z, ?o3z, ?o4z, ?o5z, ?o6z, ?o7z, ?o8z, ?o9z, ?o10z, ?o11z, ?o12z, trivial⟩ ?_
  case o0z =>
    intro w' hb
    show wpList _ _ _ _ _ _
    go_wp2
    exact ⟨rfl, Below.refl _ _, rfl⟩
  case o1z =>
    intro w' hb v1 hv1
    obtain rfl : v1 = _ := hv1
    have c_t_1' : w'.cell? ⟨w.heap.size, 1, none⟩ = some (.int .i64 (bets : Int)) := (hb.cell (World.block_lt_of_cell? _ _ c_t_1)).trans c_t_1
    show wpList _ _ _ _ _ _
    simp only [Grow.dstOf, List.getElem?_toArray, List.getElem?_cons_zero, Option.bind_some, Act.put, List.setIfInBounds_toArray, List.set_cons_succ, List.set_cons_zero]
    go_wp2
    exact ⟨rfl, Below.refl _ _, rfl⟩
  case o2z =>
    intro w' hb
    show wpList _ _ _ _ _ _
    go_wp2
    exact ⟨rfl, Below.refl _ _, rfl⟩
  case o3z =>
    intro w' hb
    show wpList _ _ _ _ _ _
    go_wp2
    exact ⟨rfl, Below.refl _ _, rfl⟩
  case o4z =>
    intro w' hb v1 hv1 v2 hv2 v3 hv3
    obtain rfl : v1 = _ := hv1
    obtain rfl : v2 = _ := hv2
    obtain rfl : v3 = _ := hv3
    show wpList _ _ _ _ _ _
    simp only [Grow.dstOf, List.getElem?_toArray, List.getElem?_cons_succ, List.getElem?_cons_zero, Option.bind_some, Act.put, List.setIfInBounds_toArray, List.set_cons_succ, List.set_cons_zero]
    go_wp2_with fail
    refine (side_is _ _ _ bets up down _ rfl rfl rfl rfl h1 h5 hu hd w' (HT0.out.ext (ext_trans HW.out hb))).mono ?_
    rintro e wz ⟨rfl, hbz⟩
    go_wp2
    exact ⟨rfl, hbz, rfl⟩
  case o5z =>
    intro w' hb
    show wpList _ _ _ _ _ _
    go_wp2
    exact ⟨rfl, Below.refl _ _, rfl⟩
  case o6z =>
    intro w' hb v1 hv1
    obtain rfl : v1 = _ := hv1
    have c_t_1' : w'.cell? ⟨w.heap.size, 1, none⟩ = some (.int .i64 (bets : Int)) := (hb.cell (World.block_lt_of_cell? _ _ c_t_1)).trans c_t_1
    show wpList _ _ _ _ _ _
    simp only [Grow.dstOf, List.getElem?_toArray, List.getElem?_cons_succ, List.getElem?_cons_zero, Option.bind_some, Act.put, List.setIfInBounds_toArray, List.set_cons_succ, List.set_cons_zero]
    go_wp2
    exact ⟨rfl, Below.refl _ _, rfl⟩
  case o7z =>
    intro w' hb
    show wpList _ _ _ _ _ _
    go_wp2
    exact ⟨rfl, Below.refl _ _, rfl⟩
  case o8z =>
    intro w' hb
    show wpList _ _ _ _ _ _
    go_wp2
    exact ⟨rfl, Below.refl _ _, rfl⟩
  case o9z =>
    intro w' hb v1 hv1 v2 hv2 v3 hv3
    obtain rfl : v1 = _ := hv1
    obtain rfl : v2 = _ := hv2
    obtain rfl : v3 = _ := hv3
    show wpList _ _ _ _ _ _
    simp only [Grow.dstOf, List.getElem?_toArray, List.getElem?_cons_succ, List.getElem?_cons_zero, Option.bind_some, Act.put, List.setIfInBounds_toArray, List.set_cons_succ, List.set_cons_zero]
    go_wp2_with fail
    refine (side_is _ _ _ bets down up _ rfl rfl rfl rfl h1 h5 hd hu w' (HT0.out.ext (ext_trans HW.out hb))).mono ?_
    rintro e wz ⟨rfl, hbz⟩
    go_wp2
    exact ⟨rfl, hbz, rfl⟩
  case o10z =>
    intro w' hb v1 hv1 v2 hv2
    obtain rfl : v1 = _ := hv1
    obtain rfl : v2 = _ := hv2
    show wpList _ _ _ _ _ _
    simp only [Grow.dstOf, List.getElem?_toArray, List.getElem?_cons_succ, List.getElem?_cons_zero, Option.bind_some, Act.put, List.setIfInBounds_toArray, List.set_cons_succ, List.set_cons_zero]
    go_wp2_with fail
    refine (plus_is (sideR bets up down) (sideR bets down up) _ rfl HF1.out HF2.out HF3.out w' (HT0.out.ext (ext_trans HW.out hb))).mono ?_
    rintro e wz ⟨rfl, hbz⟩
    go_wp2
    exact ⟨rfl, hbz, rfl⟩
  case o11z =>
    intro w' hb
    show wpList _ _ _ _ _ _
    go_wp2_with fail
    refine (whole2 w' (HT0.out.ext (ext_trans HW.out hb))).mono ?_
    rintro e wz ⟨rfl, hbz⟩
    go_wp2
    exact ⟨rfl, hbz, rfl⟩
  case o12z =>
    intro w' hb v1 hv1 v2 hv2
    obtain rfl : v1 = _ := hv1
    obtain rfl : v2 = _ := hv2
    show wpList _ _ _ _ _ _
    simp only [Grow.dstOf, List.getElem?_toArray, List.getElem?_cons_succ, List.getElem?_cons_zero, Option.bind_some, Act.put, List.setIfInBounds_toArray, List.set_cons_succ, List.set_cons_zero]
    go_wp2_with fail
    refine (over_is (sideR bets up down + sideR bets down up) 2 Q HQ.out HF3.out fits2 (by decide) HFq.out w' (HT0.out.ext (ext_trans HW.out hb))).mono ?_
    rintro e wz ⟨rfl, hbz⟩
    go_wp2
    exact ⟨rfl, hbz, rfl⟩
  intro w2' hbz u0 hu0 u1 hu1 u2 hu2 u3 hu3 u4 hu4 u5 hu5 u6 hu6 u7 hu7 u8 hu8 u9 hu9 u10 hu10 u11 hu11 u12 hu12
  obtain rfl : u12 = _ := hu12
  clear hu0 hu1 hu2 hu3 hu4 hu5 hu6 hu7 hu8 hu9 hu10 hu11
  replace HB_t := Lib.hid (HB_t.out.ext hbz)
  replace HF_res := Lib.hid (HF_res.out.ext HB_res.out hbz)
  replace HB_res := Lib.hid (HB_res.out.ext hbz)
  replace HW := Lib.hid (ext_trans HW.out hbz)
  clear c_t_0 c_t_1 c_t_2 c_t_3
  clear hbz
  show wpList _ _ _ _ _ _
  simp only [Act.put, List.setIfInBounds_toArray, List.set_cons_succ, List.set_cons_zero]
  have c_res_0 : w2'.cell? ⟨w.heap.size + 1, 0, none⟩ = some (.string ⟨#[]⟩) := HB_res.out.2 0
  have c_res_1 : w2'.cell? ⟨w.heap.size + 1, 1, none⟩ = some (.string ⟨#[]⟩) := HB_res.out.2 1
  have f_res_0 := HF_res.out 0
  have f_res_1 := HF_res.out 1
  have HR := Lib.hid (res2s (.string (showN (Q))) (.string (showD (Q))) HB_res.out HW.out (show w.heap.size ≤ w.heap.size + 1 by omega))
  obtain ⟨hbF, z0, z1⟩ := id HR.out
  clear hbF
  go_wp2
  exact bodyPost_ret (v := rtV Q) (by simp [results, Tryz.results113, go_sem, z0, z1]) rfl ⟨rfl, HR.out.1⟩
theorem refEvid_at (d : Int) (d1 : 1 ≤ d) (d3 : d ≤ 3) (bets up down : Nat) (n m : ByteArray) (h1 : 1 ≤ bets) (h5 : bets ≤ 5) (hu : up ≤ 60) (hd : down ≤ 60) (w : World) (ht : Tab w) : Calls Tryz.prog 113 #[.agg #[.int .i64 d, .int .i64 (bets : Int), .string n, .string m], .int .i64 (up : Int), .int .i64 (down : Int)] w (RtP w (evR d bets up down)) := by
  obtain rfl | rfl | rfl : d = 1 ∨ d = 2 ∨ d = 3 := by omega
  · exact evid1 bets up down n m h1 h5 hu hd w ht
  · exact evid2 bets up down n m h1 h5 hu hd w ht
  · exact evid3 bets up down n m h1 h5 hu hd w ht
theorem refEvid_is (d k z y : Int) (bets up down : Nat) (hk : k = (bets : Int)) (hz : z = (up : Int)) (hy : y = (down : Int)) (d1 : 1 ≤ d) (d3 : d ≤ 3) (n m : ByteArray) (h1 : 1 ≤ bets) (h5 : bets ≤ 5) (hu : up ≤ 60) (hd : down ≤ 60) (w : World) (ht : Tab w) : Calls Tryz.prog 113 #[.agg #[.int .i64 d, .int .i64 k, .string n, .string m], .int .i64 z, .int .i64 y] w (RtP w (evR d bets up down)) := by
  subst hk; subst hz; subst hy; exact refEvid_at d d1 d3 bets up down n m h1 h5 hu hd w ht
set_option maxRecDepth 100000 in
set_option maxHeartbeats 16000000 in
theorem refEvidence_at (d k : Int) (n m : ByteArray) (hn : n.size ≤ maxLen) (hm : m.size ≤ maxLen) (up down : Int) (w : World) (ht : Tab w) : Calls Tryz.prog 36 #[.agg #[.int .i64 d, .int .i64 k, .string n, .string m], .int .i64 up, .int .i64 down] w (AnsPost w (evN d k n m up down) (evD d k n m up down) (evF d k n m up down)) := by
  have HU : Hid ((evF d k n m up down = if testF d k n m ≠ 0 then testF d k n m else if evOk up down then 0 else 1) ∧ (evN d k n m up down = if evF d k n m up down = 0 then showN (evR d k.toNat up.toNat down.toNat) else ⟨#[]⟩) ∧ (evD d k n m up down = if evF d k n m up down = 0 then showD (evR d k.toNat up.toNat down.toNat) else ⟨#[]⟩)) := Lib.hid ⟨rfl, rfl, rfl⟩
  generalize evF d k n m up down = of at *
  generalize evN d k n m up down = on at *
  generalize evD d k n m up down = od at *
  go_enter Tryz.func36, Tryz.ntmps36
  have HT0 := Lib.hid ht
  clear ht
  go_upto_region 1 with (fail)
  refine wp_box2r fun w1' hsz hbW hA0 hC hF => ?_
  clear hsz
  have HB_t := Lib.hid hA0
  have HB_res := Lib.hid hC
  have HF_res := Lib.hid hF
  have HW := Lib.hid hbW
  clear hbW hA0 hC hF
  have c_t_0 : w1'.cell? ⟨w.heap.size, 0, none⟩ = some (.int .i64 d) := HB_t.out.2 0
  have c_t_1 : w1'.cell? ⟨w.heap.size, 1, none⟩ = some (.int .i64 k) := HB_t.out.2 1
  have c_t_2 : w1'.cell? ⟨w.heap.size, 2, none⟩ = some (.string n) := HB_t.out.2 2
  have c_t_3 : w1'.cell? ⟨w.heap.size, 3, none⟩ = some (.string m) := HB_t.out.2 3
  go_wp2_with fail
  refine (checkTest_at d k n m hn hm w1' (HT0.out.ext HW.out)).mono ?_
  rintro e w2' ⟨rfl, hbz⟩
  replace HB_t := Lib.hid (HB_t.out.ext hbz)
  replace HF_res := Lib.hid (HF_res.out.ext HB_res.out hbz)
  replace HB_res := Lib.hid (HB_res.out.ext hbz)
  replace HW := Lib.hid (ext_trans HW.out hbz)
  clear c_t_0 c_t_1 c_t_2 c_t_3
  clear hbz
  by_cases hf : testF d k n m = 0
  · have hne : (testF d k n m != 0) = false := by simp [hf]
    by_cases he : evOk up down
    · have ht0 := test_ok hf
      obtain ⟨d1, d3, k1, k5, _⟩ := ht0
      obtain ⟨e1, e2, e3, e4, e5⟩ := id he
      obtain ⟨kn, rfl⟩ : ∃ x : Nat, k = (x : Int) := ⟨k.toNat, by omega⟩
      obtain ⟨un, rfl⟩ : ∃ x : Nat, up = (x : Int) := ⟨up.toNat, by omega⟩
      obtain ⟨dn, rfl⟩ : ∃ x : Nat, down = (x : Int) := ⟨down.toNat, by omega⟩
      have HO : Hid (of = 0 ∧ on = showN (evR d kn un dn) ∧ od = showD (evR d kn un dn)) := by
        have e : of = 0 := by rw [HU.out.1, if_neg (fun h => h hf), if_pos he]
        refine Lib.hid ⟨e, ?_, ?_⟩
        · rw [HU.out.2.1, if_pos e]; rfl
        · rw [HU.out.2.2, if_pos e]; rfl
      have h1 : 1 ≤ kn := by omega
      have h5 : kn ≤ 5 := by omega
      have hu : un ≤ 60 := by omega
      have hd : dn ≤ 60 := by omega
      have hud : un + dn ≤ 60 := by omega
      have hw9 : IntKind.i64.wrap ((un : Int) + (dn : Int)) = (un : Int) + (dn : Int) := IntWalk.i64_in _ (by omega)
      clear he hf HU k1 k5 e1 e2 e3 e4 e5
      have c_t_0 : w2'.cell? ⟨w.heap.size, 0, none⟩ = some (.int .i64 d) := HB_t.out.2 0
      have c_t_1 : w2'.cell? ⟨w.heap.size, 1, none⟩ = some (.int .i64 (kn : Int)) := HB_t.out.2 1
      have c_t_2 : w2'.cell? ⟨w.heap.size, 2, none⟩ = some (.string n) := HB_t.out.2 2
      have c_t_3 : w2'.cell? ⟨w.heap.size, 3, none⟩ = some (.string m) := HB_t.out.2 3
      go_wp2_with fail
      refine (refEvid_is d _ _ _ kn un dn rfl rfl rfl d1 d3 n m h1 h5 hu hd w2' (HT0.out.ext HW.out)).mono ?_
      rintro e w3' ⟨rfl, hbz⟩
      replace HB_t := Lib.hid (HB_t.out.ext hbz)
      replace HF_res := Lib.hid (HF_res.out.ext HB_res.out hbz)
      replace HB_res := Lib.hid (HB_res.out.ext hbz)
      replace HW := Lib.hid (ext_trans HW.out hbz)
      clear c_t_0 c_t_1 c_t_2 c_t_3
      clear hbz
      have c_res_0 : w3'.cell? ⟨w.heap.size + 1, 0, none⟩ = some (.string ⟨#[]⟩) := HB_res.out.2 0
      have c_res_1 : w3'.cell? ⟨w.heap.size + 1, 1, none⟩ = some (.string ⟨#[]⟩) := HB_res.out.2 1
      have f_res_0 := HF_res.out 0
      have f_res_1 := HF_res.out 1
      have HR := Lib.hid (res2s (.string (showN (evR d kn un dn))) (.string (showD (evR d kn un dn))) HB_res.out HW.out (show w.heap.size ≤ w.heap.size + 1 by omega))
      obtain ⟨hbF, z0, z1⟩ := id HR.out
      clear hbF
      go_wp2
      exact bodyPost_ret (v := .tuple #[rtV (evR d kn un dn), .int .i64 0]) (by simp [results, Tryz.results36, go_sem, z0, z1]) rfl ⟨by rw [HO.out.1, HO.out.2.1, HO.out.2.2], HR.out.1⟩
    · have HO : Hid (of = 1 ∧ on = ⟨#[]⟩ ∧ od = ⟨#[]⟩) := by
        have e : of = 1 := by rw [HU.out.1, if_neg (fun h => h hf), if_neg he]
        refine Lib.hid ⟨e, ?_, ?_⟩
        · rw [HU.out.2.1, if_neg (by rw [e]; first | decide | assumption)]
        · rw [HU.out.2.2, if_neg (by rw [e]; first | decide | assumption)]
      have he' : up < 0 ∨ 60 < up ∨ down < 0 ∨ 60 < down ∨ 60 < up + down := by unfold evOk at he; omega
      clear he hf HU
      by_cases g0 : up < 0
      · clear he'
        have c_res_0 : w2'.cell? ⟨w.heap.size + 1, 0, none⟩ = some (.string ⟨#[]⟩) := HB_res.out.2 0
        have c_res_1 : w2'.cell? ⟨w.heap.size + 1, 1, none⟩ = some (.string ⟨#[]⟩) := HB_res.out.2 1
        have f_res_0 := HF_res.out 0
        have f_res_1 := HF_res.out 1
        have HR := Lib.hid (res2s (.string ⟨#[]⟩) (.string ⟨#[]⟩) HB_res.out HW.out (show w.heap.size ≤ w.heap.size + 1 by omega))
        obtain ⟨hbF, z0, z1⟩ := id HR.out
        clear hbF
        go_wp2
        exact bodyPost_ret (v := .tuple #[.agg #[.string ⟨#[]⟩, .string ⟨#[]⟩], .int .i64 (1)]) (by simp [results, Tryz.results36, go_sem, z0, z1]) rfl ⟨by rw [HO.out.1, HO.out.2.1, HO.out.2.2], HR.out.1⟩
      · skip
        by_cases g2 : 60 < up
        · clear he'
          have c_res_0 : w2'.cell? ⟨w.heap.size + 1, 0, none⟩ = some (.string ⟨#[]⟩) := HB_res.out.2 0
          have c_res_1 : w2'.cell? ⟨w.heap.size + 1, 1, none⟩ = some (.string ⟨#[]⟩) := HB_res.out.2 1
          have f_res_0 := HF_res.out 0
          have f_res_1 := HF_res.out 1
          have HR := Lib.hid (res2s (.string ⟨#[]⟩) (.string ⟨#[]⟩) HB_res.out HW.out (show w.heap.size ≤ w.heap.size + 1 by omega))
          obtain ⟨hbF, z0, z1⟩ := id HR.out
          clear hbF
          go_wp2
          exact bodyPost_ret (v := .tuple #[.agg #[.string ⟨#[]⟩, .string ⟨#[]⟩], .int .i64 (1)]) (by simp [results, Tryz.results36, go_sem, z0, z1]) rfl ⟨by rw [HO.out.1, HO.out.2.1, HO.out.2.2], HR.out.1⟩
        · skip
          by_cases g4 : down < 0
          · clear he'
            have c_res_0 : w2'.cell? ⟨w.heap.size + 1, 0, none⟩ = some (.string ⟨#[]⟩) := HB_res.out.2 0
            have c_res_1 : w2'.cell? ⟨w.heap.size + 1, 1, none⟩ = some (.string ⟨#[]⟩) := HB_res.out.2 1
            have f_res_0 := HF_res.out 0
            have f_res_1 := HF_res.out 1
            have HR := Lib.hid (res2s (.string ⟨#[]⟩) (.string ⟨#[]⟩) HB_res.out HW.out (show w.heap.size ≤ w.heap.size + 1 by omega))
            obtain ⟨hbF, z0, z1⟩ := id HR.out
            clear hbF
            go_wp2
            exact bodyPost_ret (v := .tuple #[.agg #[.string ⟨#[]⟩, .string ⟨#[]⟩], .int .i64 (1)]) (by simp [results, Tryz.results36, go_sem, z0, z1]) rfl ⟨by rw [HO.out.1, HO.out.2.1, HO.out.2.2], HR.out.1⟩
          · skip
            by_cases g6 : 60 < down
            · clear he'
              have c_res_0 : w2'.cell? ⟨w.heap.size + 1, 0, none⟩ = some (.string ⟨#[]⟩) := HB_res.out.2 0
              have c_res_1 : w2'.cell? ⟨w.heap.size + 1, 1, none⟩ = some (.string ⟨#[]⟩) := HB_res.out.2 1
              have f_res_0 := HF_res.out 0
              have f_res_1 := HF_res.out 1
              have HR := Lib.hid (res2s (.string ⟨#[]⟩) (.string ⟨#[]⟩) HB_res.out HW.out (show w.heap.size ≤ w.heap.size + 1 by omega))
              obtain ⟨hbF, z0, z1⟩ := id HR.out
              clear hbF
              go_wp2
              exact bodyPost_ret (v := .tuple #[.agg #[.string ⟨#[]⟩, .string ⟨#[]⟩], .int .i64 (1)]) (by simp [results, Tryz.results36, go_sem, z0, z1]) rfl ⟨by rw [HO.out.1, HO.out.2.1, HO.out.2.2], HR.out.1⟩
            · skip
              have g9 : 60 < up + down := by omega
              have hw9 : IntKind.i64.wrap (up + down) = up + down := IntWalk.i64_in _ (by omega)
              clear he'
              have c_res_0 : w2'.cell? ⟨w.heap.size + 1, 0, none⟩ = some (.string ⟨#[]⟩) := HB_res.out.2 0
              have c_res_1 : w2'.cell? ⟨w.heap.size + 1, 1, none⟩ = some (.string ⟨#[]⟩) := HB_res.out.2 1
              have f_res_0 := HF_res.out 0
              have f_res_1 := HF_res.out 1
              have HR := Lib.hid (res2s (.string ⟨#[]⟩) (.string ⟨#[]⟩) HB_res.out HW.out (show w.heap.size ≤ w.heap.size + 1 by omega))
              obtain ⟨hbF, z0, z1⟩ := id HR.out
              clear hbF
              go_wp2
              exact bodyPost_ret (v := .tuple #[.agg #[.string ⟨#[]⟩, .string ⟨#[]⟩], .int .i64 (1)]) (by simp [results, Tryz.results36, go_sem, z0, z1]) rfl ⟨by rw [HO.out.1, HO.out.2.1, HO.out.2.2], HR.out.1⟩
  · have HO : Hid (of = testF d k n m ∧ on = ⟨#[]⟩ ∧ od = ⟨#[]⟩) := by
      have e : of = testF d k n m := by rw [HU.out.1, if_pos hf]
      refine Lib.hid ⟨e, ?_, ?_⟩
      · rw [HU.out.2.1, if_neg (by rw [e]; first | decide | assumption)]
      · rw [HU.out.2.2, if_neg (by rw [e]; first | decide | assumption)]
    have hne : (testF d k n m != 0) = true := by simp [hf]
    clear hf HU
    have c_res_0 : w2'.cell? ⟨w.heap.size + 1, 0, none⟩ = some (.string ⟨#[]⟩) := HB_res.out.2 0
    have c_res_1 : w2'.cell? ⟨w.heap.size + 1, 1, none⟩ = some (.string ⟨#[]⟩) := HB_res.out.2 1
    have f_res_0 := HF_res.out 0
    have f_res_1 := HF_res.out 1
    have HR := Lib.hid (res2s (.string ⟨#[]⟩) (.string ⟨#[]⟩) HB_res.out HW.out (show w.heap.size ≤ w.heap.size + 1 by omega))
    obtain ⟨hbF, z0, z1⟩ := id HR.out
    clear hbF
    go_wp2
    exact bodyPost_ret (v := .tuple #[.agg #[.string ⟨#[]⟩, .string ⟨#[]⟩], .int .i64 (testF d k n m)]) (by simp [results, Tryz.results36, go_sem, z0, z1]) rfl ⟨by rw [HO.out.1, HO.out.2.1, HO.out.2.2], HR.out.1⟩
set_option maxRecDepth 100000 in
set_option maxHeartbeats 16000000 in
theorem progEvidence_at (d k : Int) (n m : ByteArray) (hn : n.size ≤ maxLen) (hm : m.size ≤ maxLen) (up down : Int) (w : World) : Calls Tryz.prog 35 #[.agg #[.int .i64 d, .int .i64 k, .string n, .string m], .int .i64 up, .int .i64 down] w (AnsPost w (evN d k n m up down) (evD d k n m up down) (evF d k n m up down)) := by
  have HU : Hid ((evF d k n m up down = if testF d k n m ≠ 0 then testF d k n m else if evOk up down then 0 else 1) ∧ (evN d k n m up down = if evF d k n m up down = 0 then showN (evR d k.toNat up.toNat down.toNat) else ⟨#[]⟩) ∧ (evD d k n m up down = if evF d k n m up down = 0 then showD (evR d k.toNat up.toNat down.toNat) else ⟨#[]⟩)) := Lib.hid ⟨rfl, rfl, rfl⟩
  generalize evF d k n m up down = of at *
  generalize evN d k n m up down = on at *
  generalize evD d k n m up down = od at *
  go_enter Tryz.func35, Tryz.ntmps35
  go_upto_region 1 with (fail)
  refine wp_box2r fun w1' hsz hbW hA0 hC hF => ?_
  clear hsz
  have HB_t := Lib.hid hA0
  have HB_res := Lib.hid hC
  have HF_res := Lib.hid hF
  have HW := Lib.hid hbW
  clear hbW hA0 hC hF
  have c_t_0 : w1'.cell? ⟨w.heap.size, 0, none⟩ = some (.int .i64 d) := HB_t.out.2 0
  have c_t_1 : w1'.cell? ⟨w.heap.size, 1, none⟩ = some (.int .i64 k) := HB_t.out.2 1
  have c_t_2 : w1'.cell? ⟨w.heap.size, 2, none⟩ = some (.string n) := HB_t.out.2 2
  have c_t_3 : w1'.cell? ⟨w.heap.size, 3, none⟩ = some (.string m) := HB_t.out.2 3
  go_wp2_with fail
  refine (readTest_at d k n m hn hm w1').mono ?_
  rintro e w2' ⟨dd, kk, b, a1, n1, c1, a2, n2, c2, rfl, hbt, hbz⟩
  have HBT := Lib.hid hbt
  clear hbt
  replace HB_t := Lib.hid (HB_t.out.ext hbz)
  replace HF_res := Lib.hid (HF_res.out.ext HB_res.out hbz)
  replace HB_res := Lib.hid (HB_res.out.ext hbz)
  replace HW := Lib.hid (ext_trans HW.out hbz)
  clear c_t_0 c_t_1 c_t_2 c_t_3
  clear hbz
  go_upto_region 2 with (fail)
  refine wp_box1 fun w3' hsz hbz hC => ?_
  clear hsz
  have lt_t_b : w.heap.size < w2'.heap.size := HB_t.out.1
  have lt_res_b : w.heap.size + 1 < w2'.heap.size := HB_res.out.1
  have le_b : w.heap.size ≤ w2'.heap.size := HW.out.size
  replace HB_t := Lib.hid (HB_t.out.ext hbz)
  replace HF_res := Lib.hid (HF_res.out.ext HB_res.out hbz)
  replace HB_res := Lib.hid (HB_res.out.ext hbz)
  replace HW := Lib.hid (ext_trans HW.out hbz)
  clear hbz
  have HB_b := Lib.hid hC
  clear hC
  generalize w2'.heap.size = b_b at *
  by_cases hf : testF d k n m = 0
  · have hne : (testF d k n m != 0) = false := by simp [hf]
    by_cases he : evOk up down
    · have ht0 := test_ok hf
      obtain ⟨d1, d3, k1, k5, _⟩ := ht0
      obtain ⟨e1, e2, e3, e4, e5⟩ := id he
      obtain ⟨rfl, hkk, hbo⟩ := HBT.out hf
      obtain ⟨kn, rfl⟩ : ∃ x : Nat, k = (x : Int) := ⟨k.toNat, by omega⟩
      obtain ⟨un, rfl⟩ : ∃ x : Nat, up = (x : Int) := ⟨up.toNat, by omega⟩
      obtain ⟨dn, rfl⟩ : ∃ x : Nat, down = (x : Int) := ⟨down.toNat, by omega⟩
      obtain rfl : kk = (kn : Int) := hkk
      have HO : Hid (of = 0 ∧ on = showN (evR dd kn un dn) ∧ od = showD (evR dd kn un dn)) := by
        have e : of = 0 := by rw [HU.out.1, if_neg (fun h => h hf), if_pos he]
        refine Lib.hid ⟨e, ?_, ?_⟩
        · rw [HU.out.2.1, if_pos e]; rfl
        · rw [HU.out.2.2, if_pos e]; rfl
      have h1 : 1 ≤ kn := by omega
      have h5 : kn ≤ 5 := by omega
      have hu : un ≤ 60 := by omega
      have hd : dn ≤ 60 := by omega
      have hud : un + dn ≤ 60 := by omega
      have hw9 : IntKind.i64.wrap ((un : Int) + (dn : Int)) = (un : Int) + (dn : Int) := IntWalk.i64_in _ (by omega)
      have HEV := Lib.hid (evQ_real dd d1 d3 kn h1 un dn)
      have HSM := Lib.hid (ev_small dd kn un dn h1 h5 d1 d3 hud)
      have HFI := Lib.hid (evR_fits (d := dd) h1 h5 hu hd)
      clear he hf HU k1 k5 e1 e2 e3 e4 e5 HBT hbo
      go_wp2_with fail
      refine (dwithin_yes _ _ _ (by omega) (by omega) w3').mono ?_
      rintro e w' ⟨rfl, rfl⟩
      go_wp2_with fail
      refine (dwithin_yes _ _ _ (by omega) (by omega) w3').mono ?_
      rintro e w' ⟨rfl, rfl⟩
      have c_b_0 : w3'.cell? ⟨b_b, 0, none⟩ = some (.int .i64 dd) := HB_b.out.2 0
      have c_b_1 : w3'.cell? ⟨b_b, 1, none⟩ = some (.int .i64 (kn : Int)) := HB_b.out.2 1
      have c_b_2 : w3'.cell? ⟨b_b, 2, none⟩ = some (.bool b) := HB_b.out.2 2
      have c_b_3 : w3'.cell? ⟨b_b, 3, none⟩ = some (.slice a1 n1 c1) := HB_b.out.2 3
      have c_b_4 : w3'.cell? ⟨b_b, 4, none⟩ = some (.slice a2 n2 c2) := HB_b.out.2 4
      go_wp2_with fail
      refine (evidence_at dd d1 d3 kn un dn h1 h5 hud b a1 n1 c1 a2 n2 c2 w3').mono ?_
      rintro e w4' ⟨vq, rfl, hvq, hbz⟩
      obtain ⟨p1, c5, p2, c6, rfl, _, _⟩ := hvq.open_
      have HVQ := Lib.hid hvq
      clear hvq
      replace HB_t := Lib.hid (HB_t.out.ext hbz)
      replace HF_res := Lib.hid (HF_res.out.ext HB_res.out hbz)
      replace HB_res := Lib.hid (HB_res.out.ext hbz)
      replace HB_b := Lib.hid (HB_b.out.ext hbz)
      replace HW := Lib.hid (ext_trans HW.out hbz)
      clear c_b_0 c_b_1 c_b_2 c_b_3 c_b_4
      clear hbz
      go_wp2_with fail
      refine (ratio_at _ _ w4' HVQ.out (by have := HSM.out; omega) (by have := HSM.out; omega)).mono ?_
      rintro e w5' ⟨rfl, hbz⟩
      rw [HEV.out, (out_fits HFI.out).1, (out_fits HFI.out).2.1, (out_fits HFI.out).2.2]
      replace HB_t := Lib.hid (HB_t.out.ext hbz)
      replace HF_res := Lib.hid (HF_res.out.ext HB_res.out hbz)
      replace HB_res := Lib.hid (HB_res.out.ext hbz)
      replace HB_b := Lib.hid (HB_b.out.ext hbz)
      replace HW := Lib.hid (ext_trans HW.out hbz)
      clear hbz
      have c_res_0 : w5'.cell? ⟨w.heap.size + 1, 0, none⟩ = some (.string ⟨#[]⟩) := HB_res.out.2 0
      have c_res_1 : w5'.cell? ⟨w.heap.size + 1, 1, none⟩ = some (.string ⟨#[]⟩) := HB_res.out.2 1
      have f_res_0 := HF_res.out 0
      have f_res_1 := HF_res.out 1
      have HR := Lib.hid (res2s (.string (showN (evR dd kn un dn))) (.string (showD (evR dd kn un dn))) HB_res.out HW.out (show w.heap.size ≤ w.heap.size + 1 by omega))
      obtain ⟨hbF, z0, z1⟩ := id HR.out
      clear hbF
      go_wp2
      exact bodyPost_ret (v := .tuple #[rtV (evR dd kn un dn), .int .i64 0]) (by simp [results, Tryz.results35, go_sem, z0, z1]) rfl ⟨by rw [HO.out.1, HO.out.2.1, HO.out.2.2], HR.out.1⟩
    · have HO : Hid (of = 1 ∧ on = ⟨#[]⟩ ∧ od = ⟨#[]⟩) := by
        have e : of = 1 := by rw [HU.out.1, if_neg (fun h => h hf), if_neg he]
        refine Lib.hid ⟨e, ?_, ?_⟩
        · rw [HU.out.2.1, if_neg (by rw [e]; first | decide | assumption)]
        · rw [HU.out.2.2, if_neg (by rw [e]; first | decide | assumption)]
      have he' : ¬ (0 ≤ up ∧ up ≤ 60) ∨ ¬ (0 ≤ down ∧ down ≤ 60) ∨ 60 < up + down := by unfold evOk at he; omega
      clear he hf HU HBT
      by_cases g0 : 0 ≤ up ∧ up ≤ 60
      · go_wp2_with fail
        refine (dwithin_yes _ _ _ g0.1 g0.2 w3').mono ?_
        rintro e w' ⟨rfl, rfl⟩
        by_cases g1 : 0 ≤ down ∧ down ≤ 60
        · go_wp2_with fail
          refine (dwithin_yes _ _ _ g1.1 g1.2 w3').mono ?_
          rintro e w' ⟨rfl, rfl⟩
          have g9 : 60 < up + down := by omega
          have hw9 : IntKind.i64.wrap (up + down) = up + down := IntWalk.i64_in _ (by omega)
          clear he'
          have c_res_0 : w3'.cell? ⟨w.heap.size + 1, 0, none⟩ = some (.string ⟨#[]⟩) := HB_res.out.2 0
          have c_res_1 : w3'.cell? ⟨w.heap.size + 1, 1, none⟩ = some (.string ⟨#[]⟩) := HB_res.out.2 1
          have f_res_0 := HF_res.out 0
          have f_res_1 := HF_res.out 1
          have HR := Lib.hid (res2s (.string ⟨#[]⟩) (.string ⟨#[]⟩) HB_res.out HW.out (show w.heap.size ≤ w.heap.size + 1 by omega))
          obtain ⟨hbF, z0, z1⟩ := id HR.out
          clear hbF
          go_wp2
          exact bodyPost_ret (v := .tuple #[.agg #[.string ⟨#[]⟩, .string ⟨#[]⟩], .int .i64 (1)]) (by simp [results, Tryz.results35, go_sem, z0, z1]) rfl ⟨by rw [HO.out.1, HO.out.2.1, HO.out.2.2], HR.out.1⟩
        · go_wp2_with fail
          refine (dwithin_no _ _ _ (by omega) w3').mono ?_
          rintro e w' ⟨rfl, rfl⟩
          clear he'
          have c_res_0 : w3'.cell? ⟨w.heap.size + 1, 0, none⟩ = some (.string ⟨#[]⟩) := HB_res.out.2 0
          have c_res_1 : w3'.cell? ⟨w.heap.size + 1, 1, none⟩ = some (.string ⟨#[]⟩) := HB_res.out.2 1
          have f_res_0 := HF_res.out 0
          have f_res_1 := HF_res.out 1
          have HR := Lib.hid (res2s (.string ⟨#[]⟩) (.string ⟨#[]⟩) HB_res.out HW.out (show w.heap.size ≤ w.heap.size + 1 by omega))
          obtain ⟨hbF, z0, z1⟩ := id HR.out
          clear hbF
          go_wp2
          exact bodyPost_ret (v := .tuple #[.agg #[.string ⟨#[]⟩, .string ⟨#[]⟩], .int .i64 (1)]) (by simp [results, Tryz.results35, go_sem, z0, z1]) rfl ⟨by rw [HO.out.1, HO.out.2.1, HO.out.2.2], HR.out.1⟩
      · go_wp2_with fail
        refine (dwithin_no _ _ _ (by omega) w3').mono ?_
        rintro e w' ⟨rfl, rfl⟩
        clear he'
        have c_res_0 : w3'.cell? ⟨w.heap.size + 1, 0, none⟩ = some (.string ⟨#[]⟩) := HB_res.out.2 0
        have c_res_1 : w3'.cell? ⟨w.heap.size + 1, 1, none⟩ = some (.string ⟨#[]⟩) := HB_res.out.2 1
        have f_res_0 := HF_res.out 0
        have f_res_1 := HF_res.out 1
        have HR := Lib.hid (res2s (.string ⟨#[]⟩) (.string ⟨#[]⟩) HB_res.out HW.out (show w.heap.size ≤ w.heap.size + 1 by omega))
        obtain ⟨hbF, z0, z1⟩ := id HR.out
        clear hbF
        go_wp2
        exact bodyPost_ret (v := .tuple #[.agg #[.string ⟨#[]⟩, .string ⟨#[]⟩], .int .i64 (1)]) (by simp [results, Tryz.results35, go_sem, z0, z1]) rfl ⟨by rw [HO.out.1, HO.out.2.1, HO.out.2.2], HR.out.1⟩
  · have HO : Hid (of = testF d k n m ∧ on = ⟨#[]⟩ ∧ od = ⟨#[]⟩) := by
      have e : of = testF d k n m := by rw [HU.out.1, if_pos hf]
      refine Lib.hid ⟨e, ?_, ?_⟩
      · rw [HU.out.2.1, if_neg (by rw [e]; first | decide | assumption)]
      · rw [HU.out.2.2, if_neg (by rw [e]; first | decide | assumption)]
    have hne : (testF d k n m != 0) = true := by simp [hf]
    clear hf HU HBT
    have c_res_0 : w3'.cell? ⟨w.heap.size + 1, 0, none⟩ = some (.string ⟨#[]⟩) := HB_res.out.2 0
    have c_res_1 : w3'.cell? ⟨w.heap.size + 1, 1, none⟩ = some (.string ⟨#[]⟩) := HB_res.out.2 1
    have f_res_0 := HF_res.out 0
    have f_res_1 := HF_res.out 1
    have HR := Lib.hid (res2s (.string ⟨#[]⟩) (.string ⟨#[]⟩) HB_res.out HW.out (show w.heap.size ≤ w.heap.size + 1 by omega))
    obtain ⟨hbF, z0, z1⟩ := id HR.out
    clear hbF
    go_wp2
    exact bodyPost_ret (v := .tuple #[.agg #[.string ⟨#[]⟩, .string ⟨#[]⟩], .int .i64 (testF d k n m)]) (by simp [results, Tryz.results35, go_sem, z0, z1]) rfl ⟨by rw [HO.out.1, HO.out.2.1, HO.out.2.2], HR.out.1⟩
end Nt
end Go.Proofs.YtmnmepbljegjeaaGreatDoor
