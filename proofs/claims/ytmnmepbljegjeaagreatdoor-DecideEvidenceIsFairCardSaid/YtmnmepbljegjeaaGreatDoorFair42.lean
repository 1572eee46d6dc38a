/- The walk of the law of fair evidence: for every test and every number it returns true, where the table of strconv lies. Printed by gen_lawfair.py. -/
import Derived.Test.YtmnmepbljegjeaaGreatDoorFair41
namespace Go.Proofs.YtmnmepbljegjeaaGreatDoor.lawFair
open Go.RowKit _root_.Go.Proofs.YtmnmepbljegjeaaGreatDoor.Nm _root_.Go.Proofs.YtmnmepbljegjeaaGreatDoor.Nt
theorem whole_to (z : Int) (n : Nat) (q : Rat) (hz : z = (n : Int)) (hn : n ≤ 9223372036854775807) (hq : ((n : Nat) : Rat) = q) (w : World) (ht : Tab w) : Calls Tryz.prog 44 #[.int .i64 z] w (RtP w q) := by
  subst hq; exact whole_is z n hz hn w ht
theorem progEvidence_is (d k : Int) (n m : ByteArray) (hn : n.size ≤ maxLen) (hm : m.size ≤ maxLen) (a b a' b' : Int) (ha : a = a') (hb : b = b') (w : World) : Calls Tryz.prog 35 #[.agg #[.int .i64 d, .int .i64 k, .string n, .string m], .int .i64 a, .int .i64 b] w (AnsPost w (evN d k n m a' b') (evD d k n m a' b') (evF d k n m a' b')) := by
  subst ha; subst hb; exact progEvidence_at d k n m hn hm a b w
set_option maxRecDepth 100000 in
set_option maxHeartbeats 16000000 in
theorem walk (d k : Int) (n m : ByteArray) (hn : n.size ≤ maxLen) (hm : m.size ≤ maxLen) (z : Int) (w : World) (ht : Tab w) :
    Calls Tryz.prog 6 #[.agg #[.int .i64 d, .int .i64 k, .string n, .string m], .int .i64 z] w fun e w' => e = .returned (.bool true) ∧ Below w.heap.size w w' := by
  go_enter Tryz.func6, Tryz.ntmps6
  have HT0 := Lib.hid ht
  clear ht
  go_upto_region 2 with (fail)
  refine wp_box1 fun w1' hsz hbW hA0 => ?_
  clear hsz
  have HB_t := Lib.hid hA0
  have HW := Lib.hid hbW
  clear hA0 hbW
  obtain ⟨N, hN, hmod⟩ := mod_twice z
  rw [hmod]
  clear hmod
  go_wp2_with fail
  refine (whole0 w1' (HT0.out.ext HW.out)).mono ?_
  rintro e w2' ⟨rfl, hbz⟩
  replace HB_t := Lib.hid (HB_t.out.ext hbz)
  replace HW := Lib.hid (ext_trans HW.out hbz)
  clear hbz
  go_wp2_with fail
  refine (whole1 w2' (HT0.out.ext HW.out)).mono ?_
  rintro e w3' ⟨rfl, hbz⟩
  replace HB_t := Lib.hid (HB_t.out.ext hbz)
  replace HW := Lib.hid (ext_trans HW.out hbz)
  clear hbz
  go_wp2_with fail
  refine (whole1 w3' (HT0.out.ext HW.out)).mono ?_
  rintro e w4' ⟨rfl, hbz⟩
  replace HB_t := Lib.hid (HB_t.out.ext hbz)
  replace HW := Lib.hid (ext_trans HW.out hbz)
  clear hbz
  go_upto_region 3 with (fail)
  refine wp_box3f fun w5' hsz hbz hC0 hF0 hC1 hF1 hC2 hF2 => ?_
  clear hsz
  have lt_t_sum : w.heap.size < w4'.heap.size := HB_t.out.1
  have le_sum : w.heap.size ≤ w4'.heap.size := HW.out.size
  replace HB_t := Lib.hid (HB_t.out.ext hbz)
  replace HW := Lib.hid (ext_trans HW.out hbz)
  clear hbz
  have HB_sum := Lib.hid hC0
  have HF_sum := Lib.hid hF0
  clear hC0 hF0
  have HB_ways := Lib.hid hC1
  have HF_ways := Lib.hid hF1
  clear hC1 hF1
  have HB_half := Lib.hid hC2
  have HF_half := Lib.hid hF2
  clear hC2 hF2
  generalize w4'.heap.size = b_sum at *
  go_wp2
  go_loopw [19] (fun i wr => ∃ j : Nat, j ≤ N ∧ i = .int .i64 (j : Int) ∧ (Box wr w.heap.size #[.int .i64 d, .int .i64 k, .string n, .string m]) ∧ (Box wr b_sum #[.string (showN (0)), .string (showD (0))]) ∧ (Fre wr b_sum) ∧ (Box wr (b_sum + 1) #[.string (showN (1)), .string (showD (1))]) ∧ (Fre wr (b_sum + 1)) ∧ (Box wr (b_sum + 2) #[.string (showN ((2 : Rat) ^ j)), .string (showD ((2 : Rat) ^ j))]) ∧ (Fre wr (b_sum + 2)) ∧ (Below w.heap.size w wr)) (fun i _ => N - (intOf i).toNat)
  case atStart => exact ⟨0, by omega, rfl, HB_t.out, HB_sum.out, HF_sum.out, HB_ways.out, HF_ways.out, (by rw [Rat.pow_zero]; exact HB_half.out), HF_half.out, HW.out⟩
  case round =>
    obtain ⟨j, hj, rfl, q_HB_t, q_HB_sum, q_HF_sum, q_HB_ways, q_HF_ways, q_HB_half, q_HF_half, q_HW⟩ := hrel
    clear HB_t HB_sum HF_sum HB_ways HF_ways HB_half HF_half HW
    have HB_t := Lib.hid q_HB_t
    have HB_sum := Lib.hid q_HB_sum
    have HF_sum := Lib.hid q_HF_sum
    have HB_ways := Lib.hid q_HB_ways
    have HF_ways := Lib.hid q_HF_ways
    have HB_half := Lib.hid q_HB_half
    have HF_half := Lib.hid q_HF_half
    have HW := Lib.hid q_HW
    clear q_HB_t q_HB_sum q_HF_sum q_HB_ways q_HF_ways q_HB_half q_HF_half q_HW
    generalize hX : wr = X at *
    clear hX
    by_cases hlt : j < N
    · have c_half_0 : X.cell? ⟨(b_sum + 2), 0, none⟩ = some (.string (showN ((2 : Rat) ^ j))) := HB_half.out.2 0
      have c_half_1 : X.cell? ⟨(b_sum + 2), 1, none⟩ = some (.string (showD ((2 : Rat) ^ j))) := HB_half.out.2 1
      go_upto_region 5 with (fail)
      refine Grow.wp_region_grow 3 [TP.eq (rtV ((2 : Rat) ^ j)), TP.eq (rtV 2), TP.eq (rtV ((2 : Rat) ^ (j + 1)))] [[], [], [0, 1]] (by kernel_rfl) (by kernel_rfl) ⟨?o0a, ?o1a, ?o2a, trivial⟩ ?_
      case o0a =>
        intro w' hb
        have c_half_0' : w'.cell? ⟨(b_sum + 2), 0, none⟩ = some (.string (showN ((2 : Rat) ^ j))) := (hb.cell (World.block_lt_of_cell? _ _ c_half_0)).trans c_half_0
        have c_half_1' : w'.cell? ⟨(b_sum + 2), 1, none⟩ = some (.string (showD ((2 : Rat) ^ j))) := (hb.cell (World.block_lt_of_cell? _ _ c_half_1)).trans c_half_1
        show wpList _ _ _ _ _ _
        go_wp2
        exact ⟨rfl, Below.refl _ _, rfl⟩
      case o1a =>
        intro w' hb
        show wpList _ _ _ _ _ _
        go_wp2_with fail
        refine (whole2 w' (HT0.out.ext (ext_trans HW.out hb))).mono ?_
        rintro e wz ⟨rfl, hbz⟩
        go_wp2
        exact ⟨rfl, hbz, rfl⟩
      case o2a =>
        intro w' hb v1 hv1 v2 hv2
        obtain rfl : v1 = _ := hv1
        obtain rfl : v2 = _ := hv2
        show wpList _ _ _ _ _ _
        simp only [Grow.dstOf, List.getElem?_toArray, List.getElem?_cons_succ, List.getElem?_cons_zero, Option.bind_some, Act.put, List.setIfInBounds_toArray, List.set_cons_succ, List.set_cons_zero]
        go_wp2_with fail
        refine (times_is ((2 : Rat) ^ j) 2 ((2 : Rat) ^ (j + 1)) (Rat.pow_succ _ _).symm (two_pow_fits N j (by omega)) fits2 (two_pow_fits N (j + 1) (by omega)) w' (HT0.out.ext (ext_trans HW.out hb))).mono ?_
        rintro e wz ⟨rfl, hbz⟩
        go_wp2
        exact ⟨rfl, hbz, rfl⟩
      intro w6' hbz u0 hu0 u1 hu1 u2 hu2
      obtain rfl : u2 = _ := hu2
      clear hu0 hu1
      replace HB_t := Lib.hid (HB_t.out.ext hbz)
      replace HF_sum := Lib.hid (HF_sum.out.ext HB_sum.out hbz)
      replace HB_sum := Lib.hid (HB_sum.out.ext hbz)
      replace HF_ways := Lib.hid (HF_ways.out.ext HB_ways.out hbz)
      replace HB_ways := Lib.hid (HB_ways.out.ext hbz)
      replace HF_half := Lib.hid (HF_half.out.ext HB_half.out hbz)
      replace HB_half := Lib.hid (HB_half.out.ext hbz)
      replace HW := Lib.hid (ext_trans HW.out hbz)
      clear c_half_0 c_half_1
      clear hbz
      show wpList _ _ _ _ _ _
      simp only [Act.put, List.setIfInBounds_toArray, List.set_cons_succ, List.set_cons_zero]
      have c_half_0 : w6'.cell? ⟨(b_sum + 2), 0, none⟩ = some (.string (showN ((2 : Rat) ^ j))) := HB_half.out.2 0
      have c_half_1 : w6'.cell? ⟨(b_sum + 2), 1, none⟩ = some (.string (showD ((2 : Rat) ^ j))) := HB_half.out.2 1
      have f_half_0 := HF_half.out 0
      have f_half_1 := HF_half.out 1
      have nB_t : Hid (Box ((w6'.setCell ⟨(b_sum + 2), 0, none⟩ (.string (showN ((2 : Rat) ^ (j + 1))))).setCell ⟨(b_sum + 2), 1, none⟩ (.string (showD ((2 : Rat) ^ (j + 1))))) w.heap.size #[.int .i64 d, .int .i64 k, .string n, .string m]) := Lib.hid (boxn_other (boxn_other (HB_t.out) (by omega) 0 (.string (showN ((2 : Rat) ^ (j + 1))))) (by omega) 1 (.string (showD ((2 : Rat) ^ (j + 1)))))
      have nB_sum : Hid (Box ((w6'.setCell ⟨(b_sum + 2), 0, none⟩ (.string (showN ((2 : Rat) ^ (j + 1))))).setCell ⟨(b_sum + 2), 1, none⟩ (.string (showD ((2 : Rat) ^ (j + 1))))) b_sum #[.string (showN (0)), .string (showD (0))]) := Lib.hid (boxn_other (boxn_other (HB_sum.out) (by omega) 0 (.string (showN ((2 : Rat) ^ (j + 1))))) (by omega) 1 (.string (showD ((2 : Rat) ^ (j + 1)))))
      have nF_sum : Hid (Fre ((w6'.setCell ⟨(b_sum + 2), 0, none⟩ (.string (showN ((2 : Rat) ^ (j + 1))))).setCell ⟨(b_sum + 2), 1, none⟩ (.string (showD ((2 : Rat) ^ (j + 1))))) b_sum) := Lib.hid (fun j => by simp only [World.frozen?_setCell]; exact HF_sum.out j)
      have nB_ways : Hid (Box ((w6'.setCell ⟨(b_sum + 2), 0, none⟩ (.string (showN ((2 : Rat) ^ (j + 1))))).setCell ⟨(b_sum + 2), 1, none⟩ (.string (showD ((2 : Rat) ^ (j + 1))))) (b_sum + 1) #[.string (showN (1)), .string (showD (1))]) := Lib.hid (boxn_other (boxn_other (HB_ways.out) (by omega) 0 (.string (showN ((2 : Rat) ^ (j + 1))))) (by omega) 1 (.string (showD ((2 : Rat) ^ (j + 1)))))
      have nF_ways : Hid (Fre ((w6'.setCell ⟨(b_sum + 2), 0, none⟩ (.string (showN ((2 : Rat) ^ (j + 1))))).setCell ⟨(b_sum + 2), 1, none⟩ (.string (showD ((2 : Rat) ^ (j + 1))))) (b_sum + 1)) := Lib.hid (fun j => by simp only [World.frozen?_setCell]; exact HF_ways.out j)
      have nB_half : Hid (Box ((w6'.setCell ⟨(b_sum + 2), 0, none⟩ (.string (showN ((2 : Rat) ^ (j + 1))))).setCell ⟨(b_sum + 2), 1, none⟩ (.string (showD ((2 : Rat) ^ (j + 1))))) (b_sum + 2) #[.string (showN ((2 : Rat) ^ (j + 1))), .string (showD ((2 : Rat) ^ (j + 1)))]) := Lib.hid (boxn_cell (boxn_cell (HB_half.out) (j := 0) (by simp) (.string (showN ((2 : Rat) ^ (j + 1))))) (j := 1) (by simp) (.string (showD ((2 : Rat) ^ (j + 1)))))
      have nF_half : Hid (Fre ((w6'.setCell ⟨(b_sum + 2), 0, none⟩ (.string (showN ((2 : Rat) ^ (j + 1))))).setCell ⟨(b_sum + 2), 1, none⟩ (.string (showD ((2 : Rat) ^ (j + 1))))) (b_sum + 2)) := Lib.hid (fun j => by simp only [World.frozen?_setCell]; exact HF_half.out j)
      have nW : Hid (Below w.heap.size w ((w6'.setCell ⟨(b_sum + 2), 0, none⟩ (.string (showN ((2 : Rat) ^ (j + 1))))).setCell ⟨(b_sum + 2), 1, none⟩ (.string (showD ((2 : Rat) ^ (j + 1)))))) := Lib.hid (((HW.out).setCell (p := ⟨(b_sum + 2), 0, none⟩) (show w.heap.size ≤ (b_sum + 2) by omega) (.string (showN ((2 : Rat) ^ (j + 1))))).setCell (p := ⟨(b_sum + 2), 1, none⟩) (show w.heap.size ≤ (b_sum + 2) by omega) (.string (showD ((2 : Rat) ^ (j + 1)))))
      go_wp2
      go_roundw
      case rel => exact ⟨j + 1, by omega, by go_num, nB_t.out, nB_sum.out, nF_sum.out, nB_ways.out, nF_ways.out, nB_half.out, nF_half.out, nW.out⟩
      case measure => simp [intOf]; omega
    · have hjN : j = N := by omega
      subst hjN
      clear hj hlt
      have e1 : IntKind.i64.wrap ((j : Int) + 1) = (j : Int) + 1 := IntWalk.i64_in _ (by omega)
      go_wp2
      clear e1
      by_cases hf : testF d k n m = 0
      · obtain ⟨d1, d3, k1, k5, _⟩ := test_ok hf
        obtain ⟨kn, rfl⟩ : ∃ x : Nat, k = (x : Int) := ⟨k.toNat, by omega⟩
        have h1 : 1 ≤ kn := by omega
        have h5 : kn ≤ 5 := by omega
        have HEF : Hid (∀ i : Nat, i ≤ j → evF d (kn : Int) n m (i : Int) ((j - i : Nat) : Int) = 0 ∧ evN d (kn : Int) n m (i : Int) ((j - i : Nat) : Int) = showN (evR d kn i (j - i)) ∧ evD d (kn : Int) n m (i : Int) ((j - i : Nat) : Int) = showD (evR d kn i (j - i))) := by
          refine Lib.hid fun i hi => ?_
          have e : evF d (kn : Int) n m (i : Int) ((j - i : Nat) : Int) = 0 := by unfold evF; rw [if_neg (fun h => h hf), if_pos (by unfold evOk; omega)]
          unfold evN evD
          rw [if_pos e, if_pos e]
          exact ⟨e, rfl, rfl⟩
        have HFT : Hid (∀ i, i ≤ j → Fits (fairT d kn j i) ∧ Fits (fairS d kn j i) ∧ Fits (fairS d kn j (i + 1))) := Lib.hid (fair_fits d d1 d3 kn j h1 h5 hN)
        have HFE : Hid (∀ i, i ≤ j → Fits (evR d kn i (j - i))) := Lib.hid fun i hi => evR_fits h1 h5 (by omega) (by omega)
        clear hf k1 k5
        go_loopw [27] (fun i' wr => ∃ i : Nat, i ≤ j + 1 ∧ i' = .int .i64 (i : Int) ∧ (Box wr w.heap.size #[.int .i64 d, .int .i64 (kn : Int), .string n, .string m]) ∧ (Box wr b_sum #[.string (showN (fairS d kn j i)), .string (showD (fairS d kn j i))]) ∧ (Fre wr b_sum) ∧ (Box wr (b_sum + 1) #[.string (showN (((chooseN j i : Nat) : Rat))), .string (showD (((chooseN j i : Nat) : Rat)))]) ∧ (Fre wr (b_sum + 1)) ∧ (Box wr (b_sum + 2) #[.string (showN ((2 : Rat) ^ j)), .string (showD ((2 : Rat) ^ j))]) ∧ (Fre wr (b_sum + 2)) ∧ (Below w.heap.size w wr)) (fun i' _ => j + 1 - (intOf i').toNat)
        case atStart => exact ⟨0, by omega, rfl, HB_t.out, (by rw [fairS_zero]; exact HB_sum.out), HF_sum.out, (by rw [ways_zero]; exact HB_ways.out), HF_ways.out, HB_half.out, HF_half.out, HW.out⟩
        case round =>
          obtain ⟨i, hi, rfl, q_HB_t, q_HB_sum, q_HF_sum, q_HB_ways, q_HF_ways, q_HB_half, q_HF_half, q_HW⟩ := hrel
          clear HB_t HB_sum HF_sum HB_ways HF_ways HB_half HF_half HW
          have HB_t := Lib.hid q_HB_t
          have HB_sum := Lib.hid q_HB_sum
          have HF_sum := Lib.hid q_HF_sum
          have HB_ways := Lib.hid q_HB_ways
          have HF_ways := Lib.hid q_HF_ways
          have HB_half := Lib.hid q_HB_half
          have HF_half := Lib.hid q_HF_half
          have HW := Lib.hid q_HW
          clear q_HB_t q_HB_sum q_HF_sum q_HB_ways q_HF_ways q_HB_half q_HF_half q_HW
          generalize hX : wr = Y at *
          clear hX
          by_cases hlt : i < j + 1
          · have e1 : IntKind.i64.wrap ((j : Int) - (i : Int)) = ((j - i : Nat) : Int) := by rw [IntWalk.i64_in _ (by omega)]; omega
            have e2 : True := trivial
            obtain ⟨jd, hjd⟩ : ∃ x, j - i = x := ⟨_, rfl⟩
            have HJD := Lib.hid hjd
            rw [hjd] at e1
            have hjd' : (j : Int) - (i : Int) = (jd : Int) := by omega
            clear hjd
            have c_t_0 : Y.cell? ⟨w.heap.size, 0, none⟩ = some (.int .i64 d) := HB_t.out.2 0
            have c_t_1 : Y.cell? ⟨w.heap.size, 1, none⟩ = some (.int .i64 (kn : Int)) := HB_t.out.2 1
            have c_t_2 : Y.cell? ⟨w.heap.size, 2, none⟩ = some (.string n) := HB_t.out.2 2
            have c_t_3 : Y.cell? ⟨w.heap.size, 3, none⟩ = some (.string m) := HB_t.out.2 3
            go_wp2_with fail
            refine (progEvidence_is d (kn : Int) n m hn hm _ _ (i : Int) ((jd : Nat) : Int) rfl (by omega) Y).mono ?_
            rintro e w6' ⟨rfl, hbz⟩
            have hef := HEF.out i (by omega)
            rw [HJD.out] at hef
            rw [hef.1, hef.2.1, hef.2.2]
            clear hef
            replace HB_t := Lib.hid (HB_t.out.ext hbz)
            replace HF_sum := Lib.hid (HF_sum.out.ext HB_sum.out hbz)
            replace HB_sum := Lib.hid (HB_sum.out.ext hbz)
            replace HF_ways := Lib.hid (HF_ways.out.ext HB_ways.out hbz)
            replace HB_ways := Lib.hid (HB_ways.out.ext hbz)
            replace HF_half := Lib.hid (HF_half.out.ext HB_half.out hbz)
            replace HB_half := Lib.hid (HB_half.out.ext hbz)
            replace HW := Lib.hid (ext_trans HW.out hbz)
            clear c_t_0 c_t_1 c_t_2 c_t_3
            clear hbz
            go_upto_region 11 with (fail)
            refine wp_box1 fun w7' hsz hbz hC => ?_
            clear hsz
            have lt_t_e : w.heap.size < w6'.heap.size := HB_t.out.1
            have lt_sum_e : b_sum < w6'.heap.size := HB_sum.out.1
            have lt_ways_e : (b_sum + 1) < w6'.heap.size := HB_ways.out.1
            have lt_half_e : (b_sum + 2) < w6'.heap.size := HB_half.out.1
            have le_e : w.heap.size ≤ w6'.heap.size := HW.out.size
            replace HB_t := Lib.hid (HB_t.out.ext hbz)
            replace HF_sum := Lib.hid (HF_sum.out.ext HB_sum.out hbz)
            replace HB_sum := Lib.hid (HB_sum.out.ext hbz)
            replace HF_ways := Lib.hid (HF_ways.out.ext HB_ways.out hbz)
            replace HB_ways := Lib.hid (HB_ways.out.ext hbz)
            replace HF_half := Lib.hid (HF_half.out.ext HB_half.out hbz)
            replace HB_half := Lib.hid (HB_half.out.ext hbz)
            replace HW := Lib.hid (ext_trans HW.out hbz)
            clear hbz
            have HB_e := Lib.hid hC
            clear hC
            generalize w6'.heap.size = b_e at *
            clear e1 e2 hjd'
            have HTT : Hid (((chooseN j i : Nat) : Rat) * evR d kn i jd = fairT d kn j i) := Lib.hid (by rw [← HJD.out]; rfl)
            have HEE : Hid (Fits (evR d kn i jd)) := Lib.hid (by rw [← HJD.out]; exact HFE.out i (by omega))
            have c_sum_0 : w7'.cell? ⟨b_sum, 0, none⟩ = some (.string (showN (fairS d kn j i))) := HB_sum.out.2 0
            have c_sum_1 : w7'.cell? ⟨b_sum, 1, none⟩ = some (.string (showD (fairS d kn j i))) := HB_sum.out.2 1
            have c_ways_0 : w7'.cell? ⟨(b_sum + 1), 0, none⟩ = some (.string (showN (((chooseN j i : Nat) : Rat)))) := HB_ways.out.2 0
            have c_ways_1 : w7'.cell? ⟨(b_sum + 1), 1, none⟩ = some (.string (showD (((chooseN j i : Nat) : Rat)))) := HB_ways.out.2 1
            have c_e_0 : w7'.cell? ⟨b_e, 0, none⟩ = some (.string (showN (evR d kn i jd))) := HB_e.out.2 0
            have c_e_1 : w7'.cell? ⟨b_e, 1, none⟩ = some (.string (showD (evR d kn i jd))) := HB_e.out.2 1
            go_upto_region 13 with (fail)
            refine Grow.wp_region_grow 5 [TP.eq (rtV (fairS d kn j i)), TP.eq (rtV (((chooseN j i : Nat) : Rat))), TP.eq (rtV (evR d kn i jd)), TP.eq (rtV (fairT d kn j i)), TP.eq (rtV (fairS d kn j (i + 1)))] [[], [], [], [1, 2], [0, 3]] (by kernel_rfl) (by kernel_rfl) ⟨?o0b, ?o1b, ?o2b, ?o3b, ?o4b, trivial⟩ ?_
            case o0b =>
              intro w' hb
              have c_sum_0' : w'.cell? ⟨b_sum, 0, none⟩ = some (.string (showN (fairS d kn j i))) := (hb.cell (World.block_lt_of_cell? _ _ c_sum_0)).trans c_sum_0
              have c_sum_1' : w'.cell? ⟨b_sum, 1, none⟩ = some (.string (showD (fairS d kn j i))) := (hb.cell (World.block_lt_of_cell? _ _ c_sum_1)).trans c_sum_1
              show wpList _ _ _ _ _ _
              go_wp2
              exact ⟨rfl, Below.refl _ _, rfl⟩
            case o1b =>
              intro w' hb
              have c_ways_0' : w'.cell? ⟨(b_sum + 1), 0, none⟩ = some (.string (showN (((chooseN j i : Nat) : Rat)))) := (hb.cell (World.block_lt_of_cell? _ _ c_ways_0)).trans c_ways_0
              have c_ways_1' : w'.cell? ⟨(b_sum + 1), 1, none⟩ = some (.string (showD (((chooseN j i : Nat) : Rat)))) := (hb.cell (World.block_lt_of_cell? _ _ c_ways_1)).trans c_ways_1
              show wpList _ _ _ _ _ _
              go_wp2
              exact ⟨rfl, Below.refl _ _, rfl⟩
            case o2b =>
              intro w' hb
              have c_e_0' : w'.cell? ⟨b_e, 0, none⟩ = some (.string (showN (evR d kn i jd))) := (hb.cell (World.block_lt_of_cell? _ _ c_e_0)).trans c_e_0
              have c_e_1' : w'.cell? ⟨b_e, 1, none⟩ = some (.string (showD (evR d kn i jd))) := (hb.cell (World.block_lt_of_cell? _ _ c_e_1)).trans c_e_1
              show wpList _ _ _ _ _ _
              go_wp2
              exact ⟨rfl, Below.refl _ _, rfl⟩
            case o3b =>
              intro w' hb v1 hv1 v2 hv2
              obtain rfl : v1 = _ := hv1
              obtain rfl : v2 = _ := hv2
              show wpList _ _ _ _ _ _
              simp only [Grow.dstOf, List.getElem?_toArray, List.getElem?_cons_succ, List.getElem?_cons_zero, Option.bind_some, Act.put, List.setIfInBounds_toArray, List.set_cons_succ, List.set_cons_zero]
              go_wp2_with fail
              refine (times_is (((chooseN j i : Nat) : Rat)) (evR d kn i jd) (fairT d kn j i) HTT.out ((chooseN_ln hN).fits (by omega) (by omega)) HEE.out (HFT.out i (by omega)).1 w' (HT0.out.ext (ext_trans HW.out hb))).mono ?_
              rintro e wz ⟨rfl, hbz⟩
              go_wp2
              exact ⟨rfl, hbz, rfl⟩
            case o4b =>
              intro w' hb v1 hv1 v2 hv2
              obtain rfl : v1 = _ := hv1
              obtain rfl : v2 = _ := hv2
              show wpList _ _ _ _ _ _
              simp only [Grow.dstOf, List.getElem?_toArray, List.getElem?_cons_succ, List.getElem?_cons_zero, Option.bind_some, Act.put, List.setIfInBounds_toArray, List.set_cons_succ, List.set_cons_zero]
              go_wp2_with fail
              refine (plus_is (fairS d kn j i) (fairT d kn j i) (fairS d kn j (i + 1)) (fairS_step d kn j i) (HFT.out i (by omega)).2.1 (HFT.out i (by omega)).1 (HFT.out i (by omega)).2.2 w' (HT0.out.ext (ext_trans HW.out hb))).mono ?_
              rintro e wz ⟨rfl, hbz⟩
              go_wp2
              exact ⟨rfl, hbz, rfl⟩
            intro w8' hbz u0 hu0 u1 hu1 u2 hu2 u3 hu3 u4 hu4
            obtain rfl : u4 = _ := hu4
            clear hu0 hu1 hu2 hu3
            replace HB_t := Lib.hid (HB_t.out.ext hbz)
            replace HF_sum := Lib.hid (HF_sum.out.ext HB_sum.out hbz)
            replace HB_sum := Lib.hid (HB_sum.out.ext hbz)
            replace HF_ways := Lib.hid (HF_ways.out.ext HB_ways.out hbz)
            replace HB_ways := Lib.hid (HB_ways.out.ext hbz)
            replace HF_half := Lib.hid (HF_half.out.ext HB_half.out hbz)
            replace HB_half := Lib.hid (HB_half.out.ext hbz)
            replace HB_e := Lib.hid (HB_e.out.ext hbz)
            replace HW := Lib.hid (ext_trans HW.out hbz)
            clear c_sum_0 c_sum_1 c_ways_0 c_ways_1 c_e_0 c_e_1
            clear hbz
            show wpList _ _ _ _ _ _
            simp only [Act.put, List.setIfInBounds_toArray, List.set_cons_succ, List.set_cons_zero]
            have c_sum_0 : w8'.cell? ⟨b_sum, 0, none⟩ = some (.string (showN (fairS d kn j i))) := HB_sum.out.2 0
            have c_sum_1 : w8'.cell? ⟨b_sum, 1, none⟩ = some (.string (showD (fairS d kn j i))) := HB_sum.out.2 1
            have f_sum_0 := HF_sum.out 0
            have f_sum_1 := HF_sum.out 1
            go_upto_region 14 with (fail)
            obtain ⟨w9', hX⟩ : ∃ X, X = ((w8'.setCell ⟨b_sum, 0, none⟩ (.string (showN (fairS d kn j (i + 1))))).setCell ⟨b_sum, 1, none⟩ (.string (showD (fairS d kn j (i + 1))))) := ⟨_, rfl⟩
            rw [← hX]
            have nB_t : Hid (Box w9' w.heap.size #[.int .i64 d, .int .i64 (kn : Int), .string n, .string m]) := by rw [hX]; exact Lib.hid (boxn_other (boxn_other (HB_t.out) (Nat.ne_of_lt lt_t_sum) 0 (.string (showN (fairS d kn j (i + 1))))) (Nat.ne_of_lt lt_t_sum) 1 (.string (showD (fairS d kn j (i + 1)))))
            have nB_sum : Hid (Box w9' b_sum #[.string (showN (fairS d kn j (i + 1))), .string (showD (fairS d kn j (i + 1)))]) := by rw [hX]; exact Lib.hid (boxn_cell (boxn_cell (HB_sum.out) (j := 0) (by simp) (.string (showN (fairS d kn j (i + 1))))) (j := 1) (by simp) (.string (showD (fairS d kn j (i + 1)))))
            have nF_sum : Hid (Fre w9' b_sum) := by rw [hX]; exact Lib.hid (fun j => by simp only [World.frozen?_setCell]; exact HF_sum.out j)
            have nB_ways : Hid (Box w9' (b_sum + 1) #[.string (showN (((chooseN j i : Nat) : Rat))), .string (showD (((chooseN j i : Nat) : Rat)))]) := by rw [hX]; exact Lib.hid (boxn_other (boxn_other (HB_ways.out) (by omega) 0 (.string (showN (fairS d kn j (i + 1))))) (by omega) 1 (.string (showD (fairS d kn j (i + 1)))))
            have nF_ways : Hid (Fre w9' (b_sum + 1)) := by rw [hX]; exact Lib.hid (fun j => by simp only [World.frozen?_setCell]; exact HF_ways.out j)
            have nB_half : Hid (Box w9' (b_sum + 2) #[.string (showN ((2 : Rat) ^ j)), .string (showD ((2 : Rat) ^ j))]) := by rw [hX]; exact Lib.hid (boxn_other (boxn_other (HB_half.out) (by omega) 0 (.string (showN (fairS d kn j (i + 1))))) (by omega) 1 (.string (showD (fairS d kn j (i + 1)))))
            have nF_half : Hid (Fre w9' (b_sum + 2)) := by rw [hX]; exact Lib.hid (fun j => by simp only [World.frozen?_setCell]; exact HF_half.out j)
            have nB_e : Hid (Box w9' b_e #[.string (showN (evR d kn i jd)), .string (showD (evR d kn i jd))]) := by rw [hX]; exact Lib.hid (boxn_other (boxn_other (HB_e.out) (Nat.ne_of_gt lt_sum_e) 0 (.string (showN (fairS d kn j (i + 1))))) (Nat.ne_of_gt lt_sum_e) 1 (.string (showD (fairS d kn j (i + 1)))))
            have nW : Hid (Below w.heap.size w w9') := by rw [hX]; exact Lib.hid (((HW.out).setCell (p := ⟨b_sum, 0, none⟩) le_sum (.string (showN (fairS d kn j (i + 1))))).setCell (p := ⟨b_sum, 1, none⟩) le_sum (.string (showD (fairS d kn j (i + 1)))))
            clear c_sum_0 c_sum_1 f_sum_0 f_sum_1
            clear hX HB_t HB_sum HF_sum HB_ways HF_ways HB_half HF_half HB_e HW
            have HB_t := nB_t
            have HB_sum := nB_sum; have HF_sum := nF_sum
            have HB_ways := nB_ways; have HF_ways := nF_ways
            have HB_half := nB_half; have HF_half := nF_half
            have HB_e := nB_e
            have HW := nW
            clear nW nB_t nB_sum nF_sum nB_ways nF_ways nB_half nF_half nB_e
            have c_ways_0 : w9'.cell? ⟨(b_sum + 1), 0, none⟩ = some (.string (showN (((chooseN j i : Nat) : Rat)))) := HB_ways.out.2 0
            have c_ways_1 : w9'.cell? ⟨(b_sum + 1), 1, none⟩ = some (.string (showD (((chooseN j i : Nat) : Rat)))) := HB_ways.out.2 1
            have hjl : jd ≤ 19 := by have := HJD.out; omega
            obtain ⟨qw, hqw⟩ : ∃ x, ((chooseN j i : Nat) : Rat) = x := ⟨_, rfl⟩
            obtain ⟨qi, hqi⟩ : ∃ x, ((i + 1 : Nat) : Rat) = x := ⟨_, rfl⟩
            obtain ⟨qj, hqj⟩ : ∃ x, ((jd : Nat) : Rat) = x := ⟨_, rfl⟩
            obtain ⟨qn, hqn⟩ : ∃ x, ((chooseN j (i + 1) : Nat) : Rat) = x := ⟨_, rfl⟩
            have HQ := Lib.hid (And.intro hqi (And.intro hqj hqn))
            have HWS : Hid (qw * qj / qi = qn) := Lib.hid (by rw [← hqw, ← hqj, ← hqi, ← hqn, ← HJD.out]; exact ways_step (by omega))
            have HWF : Hid (Fits (qw * qj)) := Lib.hid (by rw [← hqw, ← hqj]; exact ((chooseN_ln hN).mul (Ln.nat (n := jd) (a := 2) (by omega))).fits (by omega) (by omega))
            have HFi : Hid (Fits qi) := Lib.hid (by rw [← hqi]; exact (Ln.nat (n := i + 1) (a := 2) (by omega)).fits (by omega) (by omega))
            have HFj : Hid (Fits qj) := Lib.hid (by rw [← hqj]; exact (Ln.nat (n := jd) (a := 2) (by omega)).fits (by omega) (by omega))
            have HFw : Hid (Fits qw ∧ Fits qn) := Lib.hid ⟨by rw [← hqw]; exact (chooseN_ln hN).fits (by omega) (by omega), by rw [← hqn]; exact (chooseN_ln hN).fits (by omega) (by omega)⟩
            have HNZ : Hid (qi ≠ 0) := Lib.hid (by rw [← hqi]; exact ne_of_pos (natCast_pos (by omega)))
            rw [hqw] at HB_ways c_ways_0 c_ways_1
            clear hqw hqi hqj hqn
            obtain ⟨qt, hqt⟩ : ∃ x, qw * qj = x := ⟨_, rfl⟩
            have HQT := Lib.hid hqt
            rw [hqt] at HWS HWF
            clear hqt
            have hb1 : -9223372036854775808 ≤ (j : Int) - (i : Int) ∧ (j : Int) - (i : Int) ≤ 9223372036854775807 := by omega
            have hb2 : -9223372036854775808 ≤ (i : Int) + 1 ∧ (i : Int) + 1 ≤ 9223372036854775807 := by omega
            have hjd' : (j : Int) - (i : Int) = (jd : Int) := by have := HJD.out; omega
            have hj9 : jd ≤ 9223372036854775807 := by omega
            have hi9 : i + 1 ≤ 9223372036854775807 := by omega
            have HIC : Hid ((i : Int) + 1 = ((i + 1 : Nat) : Int)) := Lib.hid (by omega)
            have e3 : IntKind.i64.wrap ((j : Int) - (i : Int)) = (jd : Int) := (IntWalk.i64_in _ hb1).trans hjd'
            have e5 : IntKind.i64.wrap ((i : Int) + 1) = (i : Int) + 1 := IntWalk.i64_in _ hb2
            clear hjd' hb1 hb2
            refine Grow.wp_region_grow 10 [TP.eq (rtV qw), TP.eq (.int .i64 (j : Int)), TP.eq (.int .i64 (i : Int)), TP.eq (.int .i64 (jd : Int)), TP.eq (rtV qj), TP.eq (rtV qt), TP.eq (.int .i64 (i : Int)), TP.eq (.int .i64 ((i : Int) + 1)), TP.eq (rtV qi), TP.eq (rtV qn)] [[], [], [], [1, 2], [3], [0, 4], [], [6], [7], [5, 8]] (by kernel_rfl) (by kernel_rfl) ⟨?o0c, ?o1c, ?o2c, ?o3c, ?o4c, ?o5c, ?o6c, ?o7c, ?o8c, ?o9c, trivial⟩ ?_
            case o0c =>
              intro w' hb
              have c_ways_0' : w'.cell? ⟨(b_sum + 1), 0, none⟩ = some (.string (showN (qw))) := (hb.cell (World.block_lt_of_cell? _ _ c_ways_0)).trans c_ways_0
              have c_ways_1' : w'.cell? ⟨(b_sum + 1), 1, none⟩ = some (.string (showD (qw))) := (hb.cell (World.block_lt_of_cell? _ _ c_ways_1)).trans c_ways_1
              show wpList _ _ _ _ _ _
              go_wp2
              exact ⟨rfl, Below.refl _ _, rfl⟩
            case o1c =>
              intro w' hb
              show wpList _ _ _ _ _ _
              go_wp2
              exact ⟨rfl, Below.refl _ _, rfl⟩
            case o2c =>
              intro w' hb
              show wpList _ _ _ _ _ _
              go_wp2
              exact ⟨rfl, Below.refl _ _, rfl⟩
            case o3c =>
              intro w' hb v1 hv1 v2 hv2
              obtain rfl : v1 = _ := hv1
              obtain rfl : v2 = _ := hv2
              show wpList _ _ _ _ _ _
              simp only [Grow.dstOf, List.getElem?_toArray, List.getElem?_cons_succ, List.getElem?_cons_zero, Option.bind_some, Act.put, List.setIfInBounds_toArray, List.set_cons_succ, List.set_cons_zero]
              go_wp2
              exact ⟨rfl, Below.refl _ _, rfl⟩
            case o4c =>
              intro w' hb v1 hv1
              obtain rfl : v1 = _ := hv1
              show wpList _ _ _ _ _ _
              simp only [Grow.dstOf, List.getElem?_toArray, List.getElem?_cons_succ, List.getElem?_cons_zero, Option.bind_some, Act.put, List.setIfInBounds_toArray, List.set_cons_succ, List.set_cons_zero]
              go_wp2_with fail
              refine (whole_to _ jd qj rfl hj9 HQ.out.2.1 w' (HT0.out.ext (ext_trans HW.out hb))).mono ?_
              rintro e wz ⟨rfl, hbz⟩
              go_wp2
              exact ⟨rfl, hbz, rfl⟩
            case o5c =>
              intro w' hb v1 hv1 v2 hv2
              obtain rfl : v1 = _ := hv1
              obtain rfl : v2 = _ := hv2
              show wpList _ _ _ _ _ _
              simp only [Grow.dstOf, List.getElem?_toArray, List.getElem?_cons_succ, List.getElem?_cons_zero, Option.bind_some, Act.put, List.setIfInBounds_toArray, List.set_cons_succ, List.set_cons_zero]
              go_wp2_with fail
              refine (times_is qw qj qt HQT.out HFw.out.1 HFj.out HWF.out w' (HT0.out.ext (ext_trans HW.out hb))).mono ?_
              rintro e wz ⟨rfl, hbz⟩
              go_wp2
              exact ⟨rfl, hbz, rfl⟩
            case o6c =>
              intro w' hb
              show wpList _ _ _ _ _ _
              go_wp2
              exact ⟨rfl, Below.refl _ _, rfl⟩
            case o7c =>
              intro w' hb v1 hv1
              obtain rfl : v1 = _ := hv1
              show wpList _ _ _ _ _ _
              simp only [Grow.dstOf, List.getElem?_toArray, List.getElem?_cons_succ, List.getElem?_cons_zero, Option.bind_some, Act.put, List.setIfInBounds_toArray, List.set_cons_succ, List.set_cons_zero]
              go_wp2
              exact ⟨rfl, Below.refl _ _, rfl⟩
            case o8c =>
              intro w' hb v1 hv1
              obtain rfl : v1 = _ := hv1
              show wpList _ _ _ _ _ _
              simp only [Grow.dstOf, List.getElem?_toArray, List.getElem?_cons_succ, List.getElem?_cons_zero, Option.bind_some, Act.put, List.setIfInBounds_toArray, List.set_cons_succ, List.set_cons_zero]
              go_wp2_with fail
              refine (whole_to _ (i + 1) qi HIC.out hi9 HQ.out.1 w' (HT0.out.ext (ext_trans HW.out hb))).mono ?_
              rintro e wz ⟨rfl, hbz⟩
              go_wp2
              exact ⟨rfl, hbz, rfl⟩
            case o9c =>
              intro w' hb v1 hv1 v2 hv2
              obtain rfl : v1 = _ := hv1
              obtain rfl : v2 = _ := hv2
              show wpList _ _ _ _ _ _
              simp only [Grow.dstOf, List.getElem?_toArray, List.getElem?_cons_succ, List.getElem?_cons_zero, Option.bind_some, Act.put, List.setIfInBounds_toArray, List.set_cons_succ, List.set_cons_zero]
              go_wp2_with fail
              refine (over_is qt qi qn HWS.out HWF.out HFi.out HNZ.out HFw.out.2 w' (HT0.out.ext (ext_trans HW.out hb))).mono ?_
              rintro e wz ⟨rfl, hbz⟩
              go_wp2
              exact ⟨rfl, hbz, rfl⟩
            intro w10' hbz u0 hu0 u1 hu1 u2 hu2 u3 hu3 u4 hu4 u5 hu5 u6 hu6 u7 hu7 u8 hu8 u9 hu9
            obtain rfl : u9 = _ := hu9
            clear hu0 hu1 hu2 hu3 hu4 hu5 hu6 hu7 hu8
            replace HB_t := Lib.hid (HB_t.out.ext hbz)
            replace HF_sum := Lib.hid (HF_sum.out.ext HB_sum.out hbz)
            replace HB_sum := Lib.hid (HB_sum.out.ext hbz)
            replace HF_ways := Lib.hid (HF_ways.out.ext HB_ways.out hbz)
            replace HB_ways := Lib.hid (HB_ways.out.ext hbz)
            replace HF_half := Lib.hid (HF_half.out.ext HB_half.out hbz)
            replace HB_half := Lib.hid (HB_half.out.ext hbz)
            replace HB_e := Lib.hid (HB_e.out.ext hbz)
            replace HW := Lib.hid (ext_trans HW.out hbz)
            clear c_ways_0 c_ways_1
            clear hbz
            show wpList _ _ _ _ _ _
            simp only [Act.put, List.setIfInBounds_toArray, List.set_cons_succ, List.set_cons_zero]
            have c_ways_0 : w10'.cell? ⟨(b_sum + 1), 0, none⟩ = some (.string (showN (qw))) := HB_ways.out.2 0
            have c_ways_1 : w10'.cell? ⟨(b_sum + 1), 1, none⟩ = some (.string (showD (qw))) := HB_ways.out.2 1
            have f_ways_0 := HF_ways.out 0
            have f_ways_1 := HF_ways.out 1
            have nB_t : Hid (Box ((w10'.setCell ⟨(b_sum + 1), 0, none⟩ (.string (showN (qn)))).setCell ⟨(b_sum + 1), 1, none⟩ (.string (showD (qn)))) w.heap.size #[.int .i64 d, .int .i64 (kn : Int), .string n, .string m]) := Lib.hid (boxn_other (boxn_other (HB_t.out) (by omega) 0 (.string (showN (qn)))) (by omega) 1 (.string (showD (qn))))
            have nB_sum : Hid (Box ((w10'.setCell ⟨(b_sum + 1), 0, none⟩ (.string (showN (qn)))).setCell ⟨(b_sum + 1), 1, none⟩ (.string (showD (qn)))) b_sum #[.string (showN (fairS d kn j (i + 1))), .string (showD (fairS d kn j (i + 1)))]) := Lib.hid (boxn_other (boxn_other (HB_sum.out) (by omega) 0 (.string (showN (qn)))) (by omega) 1 (.string (showD (qn))))
            have nF_sum : Hid (Fre ((w10'.setCell ⟨(b_sum + 1), 0, none⟩ (.string (showN (qn)))).setCell ⟨(b_sum + 1), 1, none⟩ (.string (showD (qn)))) b_sum) := Lib.hid (fun j => by simp only [World.frozen?_setCell]; exact HF_sum.out j)
            have nB_ways : Hid (Box ((w10'.setCell ⟨(b_sum + 1), 0, none⟩ (.string (showN (qn)))).setCell ⟨(b_sum + 1), 1, none⟩ (.string (showD (qn)))) (b_sum + 1) #[.string (showN (qn)), .string (showD (qn))]) := Lib.hid (boxn_cell (boxn_cell (HB_ways.out) (j := 0) (by simp) (.string (showN (qn)))) (j := 1) (by simp) (.string (showD (qn))))
            have nF_ways : Hid (Fre ((w10'.setCell ⟨(b_sum + 1), 0, none⟩ (.string (showN (qn)))).setCell ⟨(b_sum + 1), 1, none⟩ (.string (showD (qn)))) (b_sum + 1)) := Lib.hid (fun j => by simp only [World.frozen?_setCell]; exact HF_ways.out j)
            have nB_half : Hid (Box ((w10'.setCell ⟨(b_sum + 1), 0, none⟩ (.string (showN (qn)))).setCell ⟨(b_sum + 1), 1, none⟩ (.string (showD (qn)))) (b_sum + 2) #[.string (showN ((2 : Rat) ^ j)), .string (showD ((2 : Rat) ^ j))]) := Lib.hid (boxn_other (boxn_other (HB_half.out) (by omega) 0 (.string (showN (qn)))) (by omega) 1 (.string (showD (qn))))
            have nF_half : Hid (Fre ((w10'.setCell ⟨(b_sum + 1), 0, none⟩ (.string (showN (qn)))).setCell ⟨(b_sum + 1), 1, none⟩ (.string (showD (qn)))) (b_sum + 2)) := Lib.hid (fun j => by simp only [World.frozen?_setCell]; exact HF_half.out j)
            have nB_e : Hid (Box ((w10'.setCell ⟨(b_sum + 1), 0, none⟩ (.string (showN (qn)))).setCell ⟨(b_sum + 1), 1, none⟩ (.string (showD (qn)))) b_e #[.string (showN (evR d kn i jd)), .string (showD (evR d kn i jd))]) := Lib.hid (boxn_other (boxn_other (HB_e.out) (Nat.ne_of_gt lt_ways_e) 0 (.string (showN (qn)))) (Nat.ne_of_gt lt_ways_e) 1 (.string (showD (qn))))
            have nW : Hid (Below w.heap.size w ((w10'.setCell ⟨(b_sum + 1), 0, none⟩ (.string (showN (qn)))).setCell ⟨(b_sum + 1), 1, none⟩ (.string (showD (qn))))) := Lib.hid (((HW.out).setCell (p := ⟨(b_sum + 1), 0, none⟩) (show w.heap.size ≤ (b_sum + 1) by omega) (.string (showN (qn)))).setCell (p := ⟨(b_sum + 1), 1, none⟩) (show w.heap.size ≤ (b_sum + 1) by omega) (.string (showD (qn))))
            go_wp2
            go_roundw
            case rel => exact ⟨i + 1, by omega, by go_num, nB_t.out, nB_sum.out, nF_sum.out, (by rw [HQ.out.2.2]; exact nB_ways.out), nF_ways.out, nB_half.out, nF_half.out, nW.out⟩
            case measure => simp [intOf]; omega
          · have hij : i = j + 1 := by omega
            subst hij
            rw [fairS_all d kn h1 j] at HB_sum
            clear hi hlt
            have c_sum_0 : Y.cell? ⟨b_sum, 0, none⟩ = some (.string (showN ((2 : Rat) ^ j))) := HB_sum.out.2 0
            have c_sum_1 : Y.cell? ⟨b_sum, 1, none⟩ = some (.string (showD ((2 : Rat) ^ j))) := HB_sum.out.2 1
            have c_half_0 : Y.cell? ⟨(b_sum + 2), 0, none⟩ = some (.string (showN ((2 : Rat) ^ j))) := HB_half.out.2 0
            have c_half_1 : Y.cell? ⟨(b_sum + 2), 1, none⟩ = some (.string (showD ((2 : Rat) ^ j))) := HB_half.out.2 1
            have hq : ∀ s t : ByteArray, True := fun _ _ => trivial
            clear hq
            go_wp2
            go_ret
            exact ⟨by simp, HW.out⟩
      · have HNE : Hid (∀ i : Int, ∀ i' : Int, evF d k n m i i' = testF d k n m ∧ evN d k n m i i' = ⟨#[]⟩ ∧ evD d k n m i i' = ⟨#[]⟩) := by
          refine Lib.hid fun i i' => ?_
          have e : evF d k n m i i' = testF d k n m := by unfold evF; rw [if_pos hf]
          unfold evN evD
          rw [e, if_neg hf, if_neg hf]
          exact ⟨rfl, rfl, rfl⟩
        have hne : (testF d k n m != 0) = true := by simp [hf]
        clear hf
        go_loopw [27] (fun i' wr => ∃ i : Nat, i = 0 ∧ i' = .int .i64 (i : Int) ∧ (Box wr w.heap.size #[.int .i64 d, .int .i64 k, .string n, .string m]) ∧ (Box wr b_sum #[.string (showN (0)), .string (showD (0))]) ∧ (Fre wr b_sum) ∧ (Box wr (b_sum + 1) #[.string (showN (1)), .string (showD (1))]) ∧ (Fre wr (b_sum + 1)) ∧ (Box wr (b_sum + 2) #[.string (showN ((2 : Rat) ^ j)), .string (showD ((2 : Rat) ^ j))]) ∧ (Fre wr (b_sum + 2)) ∧ (Below w.heap.size w wr)) (fun i' _ => j + 1 - (intOf i').toNat)
        case atStart => exact ⟨0, by omega, rfl, HB_t.out, HB_sum.out, HF_sum.out, HB_ways.out, HF_ways.out, HB_half.out, HF_half.out, HW.out⟩
        case round =>
          obtain ⟨i, hi, rfl, q_HB_t, q_HB_sum, q_HF_sum, q_HB_ways, q_HF_ways, q_HB_half, q_HF_half, q_HW⟩ := hrel
          clear HB_t HB_sum HF_sum HB_ways HF_ways HB_half HF_half HW
          have HB_t := Lib.hid q_HB_t
          have HB_sum := Lib.hid q_HB_sum
          have HF_sum := Lib.hid q_HF_sum
          have HB_ways := Lib.hid q_HB_ways
          have HF_ways := Lib.hid q_HF_ways
          have HB_half := Lib.hid q_HB_half
          have HF_half := Lib.hid q_HF_half
          have HW := Lib.hid q_HW
          clear q_HB_t q_HB_sum q_HF_sum q_HB_ways q_HF_ways q_HB_half q_HF_half q_HW
          generalize hX : wr = Y at *
          clear hX
          subst hi
          have hlt : 0 < j + 1 := by omega
          have c_t_0 : Y.cell? ⟨w.heap.size, 0, none⟩ = some (.int .i64 d) := HB_t.out.2 0
          have c_t_1 : Y.cell? ⟨w.heap.size, 1, none⟩ = some (.int .i64 k) := HB_t.out.2 1
          have c_t_2 : Y.cell? ⟨w.heap.size, 2, none⟩ = some (.string n) := HB_t.out.2 2
          have c_t_3 : Y.cell? ⟨w.heap.size, 3, none⟩ = some (.string m) := HB_t.out.2 3
          go_wp2_with fail
          refine (progEvidence_is d k n m hn hm _ _ _ _ rfl rfl Y).mono ?_
          rintro e w6' ⟨rfl, hbz⟩
          rw [(HNE.out _ _).1, (HNE.out _ _).2.1, (HNE.out _ _).2.2]
          replace HB_t := Lib.hid (HB_t.out.ext hbz)
          replace HF_sum := Lib.hid (HF_sum.out.ext HB_sum.out hbz)
          replace HB_sum := Lib.hid (HB_sum.out.ext hbz)
          replace HF_ways := Lib.hid (HF_ways.out.ext HB_ways.out hbz)
          replace HB_ways := Lib.hid (HB_ways.out.ext hbz)
          replace HF_half := Lib.hid (HF_half.out.ext HB_half.out hbz)
          replace HB_half := Lib.hid (HB_half.out.ext hbz)
          replace HW := Lib.hid (ext_trans HW.out hbz)
          clear c_t_0 c_t_1 c_t_2 c_t_3
          clear hbz
          go_upto_region 11 with (fail)
          refine wp_box1 fun w7' hsz hbz hC => ?_
          clear hsz
          have lt_t_e : w.heap.size < w6'.heap.size := HB_t.out.1
          have lt_sum_e : b_sum < w6'.heap.size := HB_sum.out.1
          have lt_ways_e : (b_sum + 1) < w6'.heap.size := HB_ways.out.1
          have lt_half_e : (b_sum + 2) < w6'.heap.size := HB_half.out.1
          have le_e : w.heap.size ≤ w6'.heap.size := HW.out.size
          replace HB_t := Lib.hid (HB_t.out.ext hbz)
          replace HF_sum := Lib.hid (HF_sum.out.ext HB_sum.out hbz)
          replace HB_sum := Lib.hid (HB_sum.out.ext hbz)
          replace HF_ways := Lib.hid (HF_ways.out.ext HB_ways.out hbz)
          replace HB_ways := Lib.hid (HB_ways.out.ext hbz)
          replace HF_half := Lib.hid (HF_half.out.ext HB_half.out hbz)
          replace HB_half := Lib.hid (HB_half.out.ext hbz)
          replace HW := Lib.hid (ext_trans HW.out hbz)
          clear hbz
          have HB_e := Lib.hid hC
          clear hC
          generalize w6'.heap.size = b_e at *
          have c_e_0 : w7'.cell? ⟨b_e, 0, none⟩ = some (.string ⟨#[]⟩) := HB_e.out.2 0
          have c_e_1 : w7'.cell? ⟨b_e, 1, none⟩ = some (.string ⟨#[]⟩) := HB_e.out.2 1
          go_wp2
          go_ret
          exact ⟨by simp, HW.out⟩
end Go.Proofs.YtmnmepbljegjeaaGreatDoor.lawFair
