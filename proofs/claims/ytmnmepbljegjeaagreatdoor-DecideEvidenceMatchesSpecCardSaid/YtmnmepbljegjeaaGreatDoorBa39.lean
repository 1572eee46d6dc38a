/- Plain: with how many pairs of some a test is decided. Line of the program. Printed by gen_line.py. -/
import Derived.Test.YtmnmepbljegjeaaGreatDoorBa38
import Derived.Test.YtmnmepbljegjeaaGreatDoorBa30
namespace Go.Proofs.YtmnmepbljegjeaaGreatDoor
namespace Nm
/-- the first of k numbers from n on that is decided -/
def lnFind (dec : Nat → Bool) : Nat → Nat → Option Nat
  | _, 0 => none
  | n, k + 1 => if dec n then some n else lnFind dec (n + 1) k
def lnDec (d : Int) (bets : Nat) (Q : Rat) (p i : Nat) : Bool := decB d bets Q (if d = 2 then p - i else i) (if d = 2 then i else p - i)
def lnFrom (d : Int) (p : Nat) : Nat := if d = 3 then (p + 1) / 2 else 0
theorem lnFrom_le (d : Int) (p : Nat) : lnFrom d p ≤ p := by unfold lnFrom; split <;> omega
def lnF (d k : Int) (n m : ByteArray) (p : Int) : Int := if testF d k n m ≠ 0 then testF d k n m else if 0 ≤ p ∧ p ≤ 60 then 0 else 1
def lnO (d k : Int) (n m : ByteArray) (p : Int) : Option Nat := if lnF d k n m p = 0 then lnFind (lnDec d k.toNat (rQ n m)⁻¹ p.toNat) (lnFrom d p.toNat) (p.toNat + 1 - lnFrom d p.toNat) else none
def lnN (o : Option Nat) : Int := match o with | some n => (n : Int) | none => 0
def lnK (o : Option Nat) : Bool := o.isSome
theorem lnFind_step {dec : Nat → Bool} {i k : Nat} (h : dec i = false) : lnFind dec i (k + 1) = lnFind dec (i + 1) k := by
  show (if dec i then some i else lnFind dec (i + 1) k) = _
  rw [h]; rfl
theorem lnFind_hit {dec : Nat → Bool} {i k : Nat} (h : dec i = true) : lnFind dec i (k + 1) = some i := by
  show (if dec i then some i else lnFind dec (i + 1) k) = _
  rw [h]; rfl
/-- what is found is decided, and what stands before is not -/
theorem lnFind_some {dec : Nat → Bool} : ∀ {k i n : Nat}, lnFind dec i k = some n → i ≤ n ∧ n < i + k ∧ dec n = true ∧ ∀ j, i ≤ j → j < n → dec j = false
  | 0, i, n, h => by cases h
  | k + 1, i, n, h => by
    by_cases hd : dec i = true
    · rw [lnFind_hit hd] at h
      cases h
      exact ⟨Nat.le_refl _, by omega, hd, fun j h1 h2 => by omega⟩
    · have hd' : dec i = false := by simpa using hd
      rw [lnFind_step hd'] at h
      obtain ⟨h1, h2, h3, h4⟩ := lnFind_some h
      refine ⟨by omega, by omega, h3, fun j h5 h6 => ?_⟩
      by_cases e : j = i
      · subst e; exact hd'
      · exact h4 j (by omega) h6
theorem lnFind_none {dec : Nat → Bool} : ∀ {k i : Nat}, lnFind dec i k = none → ∀ j, i ≤ j → j < i + k → dec j = false
  | 0, i, _, j, h1, h2 => by omega
  | k + 1, i, h, j, h1, h2 => by
    by_cases hd : dec i = true
    · rw [lnFind_hit hd] at h; cases h
    · have hd' : dec i = false := by simpa using hd
      rw [lnFind_step hd'] at h
      by_cases e : j = i
      · subst e; exact hd'
      · exact lnFind_none h j (by omega) (by omega)
end Nm
end Go.Proofs.YtmnmepbljegjeaaGreatDoor
namespace Go.Proofs.YtmnmepbljegjeaaGreatDoor
open Go.RowKit
namespace Nt
open _root_.Go.Proofs.YtmnmepbljegjeaaGreatDoor.Nm (lnFind lnDec lnFrom lnFrom_le lnF lnO lnN lnK lnFind_step lnFind_hit testF test_ok rQ readTest_at decides_at decB Bett)
theorem decides_is (d : Int) (bets up down : Nat) (q : Rat) (hud : up + down ≤ 60) (b : Bool) (a1 : Option Addr) (n1 c1 : Nat) (a2 : Option Addr) (n2 c2 : Nat) (w : World) (hB : Bett w d bets q b a1 n1 c1 a2 n2 c2) (z y : Int) (hz : z = (up : Int)) (hy : y = (down : Int)) (r : Bool) (hr : decB d bets q up down = r) :
    Calls Tryz.prog 119 #[.agg #[.int .i64 d, .int .i64 (bets : Int), .bool b, .slice a1 n1 c1, .slice a2 n2 c2], .int .i64 z, .int .i64 y] w (fun e w' => e = .returned (.bool r) ∧ Below w.heap.size w w') := by
  subst hz; subst hy; subst hr; exact decides_at d bets up down q hud b a1 n1 c1 a2 n2 c2 w hB
def LinePost (w : World) (o : Option Nat) (f : Int) (e : Ending) (w' : World) : Prop := e = .returned (.tuple #[.int .i64 (lnN o), .bool (lnK o), .int .i64 f]) ∧ Below w.heap.size w w'
set_option maxRecDepth 100000 in
set_option maxHeartbeats 16000000 in
theorem progLine_at (d k : Int) (n m : ByteArray) (hn : n.size ≤ maxLen) (hm : m.size ≤ maxLen) (p : Int) (w : World) : Calls Tryz.prog 42 #[.agg #[.int .i64 d, .int .i64 k, .string n, .string m], .int .i64 p] w (LinePost w (lnO d k n m p) (lnF d k n m p)) := by
  go_enter Tryz.func42, Tryz.ntmps42
  go_upto_region 1 with (fail)
  refine wp_box1 fun w1' hsz hbW hA0 => ?_
  clear hsz
  have HB_t := Lib.hid hA0
  have HW := Lib.hid hbW
  clear hbW hA0
  have c_t_0 : w1'.cell? ⟨w.heap.size, 0, none⟩ = some (.int .i64 d) := HB_t.out.2 0
  have c_t_1 : w1'.cell? ⟨w.heap.size, 1, none⟩ = some (.int .i64 k) := HB_t.out.2 1
  have c_t_2 : w1'.cell? ⟨w.heap.size, 2, none⟩ = some (.string n) := HB_t.out.2 2
  have c_t_3 : w1'.cell? ⟨w.heap.size, 3, none⟩ = some (.string m) := HB_t.out.2 3
  go_wp2_with fail
  refine (readTest_at d k n m hn hm w1').mono ?_
  rintro e w2' ⟨dd, kk, b, a1, n1, c1, a2, n2, c2, rfl, hbt, hbz⟩
  have HBT := Lib.hid hbt
  clear hbt
  replace HB_t := Lib.hid (HB_t.out.ext hbz)
  replace HW := Lib.hid (ext_trans HW.out hbz)
  clear c_t_0 c_t_1 c_t_2 c_t_3
  clear hbz
  go_upto_region 2 with (fail)
  refine wp_box1 fun w3' hsz hbz hC => ?_
  replace HBT := Lib.hid (fun h => And.intro (HBT.out h).1 (And.intro (HBT.out h).2.1 ((HBT.out h).2.2.ext hbz)))
  clear hsz
  have lt_t_b : w.heap.size < w2'.heap.size := HB_t.out.1
  have le_b : w.heap.size ≤ w2'.heap.size := HW.out.size
  replace HB_t := Lib.hid (HB_t.out.ext hbz)
  replace HW := Lib.hid (ext_trans HW.out hbz)
  clear hbz
  have HB_b := Lib.hid hC
  clear hC
  generalize w2'.heap.size = b_b at *
  by_cases hf : testF d k n m = 0
  · have hne : (testF d k n m != 0) = false := by simp [hf]
    by_cases hp : 0 ≤ p ∧ p ≤ 60
    · obtain ⟨d1, d3, k1, k5, _⟩ := test_ok hf
      obtain ⟨rfl, hkk, hbo⟩ := HBT.out hf
      obtain ⟨hp0, hp60⟩ := id hp
      obtain ⟨kn, rfl⟩ : ∃ x : Nat, k = (x : Int) := ⟨k.toNat, by omega⟩
      obtain ⟨pn, rfl⟩ : ∃ x : Nat, p = (x : Int) := ⟨p.toNat, by omega⟩
      obtain rfl : kk = (kn : Int) := hkk
      obtain ⟨Q, hQ⟩ : ∃ Q, (rQ n m)⁻¹ = Q := ⟨_, rfl⟩
      obtain ⟨o, ho⟩ : ∃ o, lnFind (lnDec dd kn Q pn) (lnFrom dd pn) (pn + 1 - lnFrom dd pn) = o := ⟨_, rfl⟩
      have HO : Hid (lnF dd (kn : Int) n m (pn : Int) = 0 ∧ lnO dd (kn : Int) n m (pn : Int) = o) := by
        have e : lnF dd (kn : Int) n m (pn : Int) = 0 := by unfold lnF; rw [if_neg (fun h => h hf), if_pos hp]
        refine Lib.hid ⟨e, ?_⟩
        unfold lnO
        rw [if_pos e, hQ]
        exact ho
      rw [hQ] at hbo
      have HBO := Lib.hid hbo
      have HFI := Lib.hid ho
      have hpn : pn ≤ 60 := by omega
      go_wp2_with fail
      refine (dwithin_yes _ _ _ (by omega) (by omega) w3').mono ?_
      rintro e w' ⟨rfl, rfl⟩
      clear hf hp hp0 hp60 hbo ho hQ HBT k1 k5
      obtain rfl | rfl | rfl : dd = 1 ∨ dd = 2 ∨ dd = 3 := by omega
      · have c_b_0 : w3'.cell? ⟨b_b, 0, none⟩ = some (.int .i64 1) := HB_b.out.2 0
        have c_b_1 : w3'.cell? ⟨b_b, 1, none⟩ = some (.int .i64 (kn : Int)) := HB_b.out.2 1
        have c_b_2 : w3'.cell? ⟨b_b, 2, none⟩ = some (.bool b) := HB_b.out.2 2
        have c_b_3 : w3'.cell? ⟨b_b, 3, none⟩ = some (.slice a1 n1 c1) := HB_b.out.2 3
        have c_b_4 : w3'.cell? ⟨b_b, 4, none⟩ = some (.slice a2 n2 c2) := HB_b.out.2 4
        have HFE : Hid (lnFrom 1 pn = 0) := Lib.hid rfl
        rw [HFE.out] at HFI
        clear HFE
        go_wp2
        clear c_b_0 c_b_1 c_b_2 c_b_3 c_b_4
        go_loopw [10] (fun i' wr => ∃ i : Nat, i ≤ pn + 1 ∧ i' = .int .i64 (i : Int) ∧ Hid (lnFind (lnDec 1 kn Q pn) i (pn + 1 - i) = o) ∧ (Box wr w.heap.size #[.int .i64 1, .int .i64 (kn : Int), .string n, .string m]) ∧ (Box wr b_b #[.int .i64 1, .int .i64 (kn : Int), .bool b, .slice a1 n1 c1, .slice a2 n2 c2]) ∧ (Bett wr 1 kn Q b a1 n1 c1 a2 n2 c2) ∧ (Below w.heap.size w wr)) (fun i' _ => pn + 1 - (intOf i').toNat)
        case atStart => exact ⟨0, by omega, rfl, HFI, HB_t.out, HB_b.out, HBO.out, HW.out⟩
        case round =>
          obtain ⟨i, hi, rfl, HFJ, q_HB_t, q_HB_b, q_HBO, q_HW⟩ := hrel
          clear HB_t HB_b HBO HW
          clear HFI
          have HB_t := Lib.hid q_HB_t
          have HB_b := Lib.hid q_HB_b
          have HBO := Lib.hid q_HBO
          have HW := Lib.hid q_HW
          clear q_HB_t q_HB_b q_HBO q_HW
          generalize hX : wr = X at *
          clear hX
          by_cases hlt : i ≤ pn
          · obtain ⟨j, hj⟩ : ∃ j, pn - i = j := ⟨_, rfl⟩
            have hij : i + j ≤ 60 := by omega
            have hji : j + i ≤ 60 := by omega
            have HJ := Lib.hid hj
            obtain ⟨k9, hk9⟩ : ∃ x, pn + 1 - i = x + 1 := ⟨pn - i, by omega⟩
            have HK9 : Hid (pn + 1 - (i + 1) = k9) := Lib.hid (by omega)
            rw [hk9] at HFJ
            clear hk9
            obtain ⟨r, hr⟩ : ∃ r, decB 1 kn Q i j = r := ⟨_, rfl⟩
            have HR1 := Lib.hid hr
            have HR2 : Hid (lnDec 1 kn Q pn i = r) := Lib.hid (by rw [← hr, ← hj]; rfl)
            have hjI : (pn : Int) - (i : Int) = (j : Int) := by omega
            have hbd : -9223372036854775808 ≤ (pn : Int) - (i : Int) ∧ (pn : Int) - (i : Int) ≤ 9223372036854775807 := by omega
            have e9 : IntKind.i64.wrap ((pn : Int) - (i : Int)) = (j : Int) := (IntWalk.i64_in _ hbd).trans hjI
            clear hr hj hjI hbd
            have c_b_0 : X.cell? ⟨b_b, 0, none⟩ = some (.int .i64 1) := HB_b.out.2 0
            have c_b_1 : X.cell? ⟨b_b, 1, none⟩ = some (.int .i64 (kn : Int)) := HB_b.out.2 1
            have c_b_2 : X.cell? ⟨b_b, 2, none⟩ = some (.bool b) := HB_b.out.2 2
            have c_b_3 : X.cell? ⟨b_b, 3, none⟩ = some (.slice a1 n1 c1) := HB_b.out.2 3
            have c_b_4 : X.cell? ⟨b_b, 4, none⟩ = some (.slice a2 n2 c2) := HB_b.out.2 4
            go_wp2_with fail
            refine (decides_is 1 kn i j Q hij b a1 n1 c1 a2 n2 c2 X HBO.out _ _ rfl rfl r HR1.out).mono ?_
            rintro e w4' ⟨rfl, hbz⟩
            replace HB_t := Lib.hid (HB_t.out.ext hbz)
            replace HB_b := Lib.hid (HB_b.out.ext hbz)
            replace HBO := Lib.hid (HBO.out.ext hbz)
            replace HW := Lib.hid (ext_trans HW.out hbz)
            clear c_b_0 c_b_1 c_b_2 c_b_3 c_b_4
            clear hbz
            clear e9
            cases r with
            | true =>
              have HV : Hid (o = some i) := Lib.hid (by rw [← HFJ.out]; exact lnFind_hit HR2.out)
              go_wp2
              exact bodyPost_ret (v := .tuple #[.int .i64 (i : Int), .bool true, .int .i64 0]) (by simp [results, Tryz.results42, go_sem]) rfl ⟨by rw [HO.out.1, HO.out.2, HV.out]; rfl, HW.out⟩
            | false =>
              have HV : Hid (lnFind (lnDec 1 kn Q pn) (i + 1) (pn + 1 - (i + 1)) = o) := Lib.hid (by rw [HK9.out, ← HFJ.out]; exact (lnFind_step HR2.out).symm)
              have e8 : IntKind.i64.wrap ((i : Int) + 1) = (i : Int) + 1 := IntWalk.i64_in _ (by omega)
              go_wp2
              go_roundw
              case rel => exact ⟨i + 1, by omega, by go_num, HV, HB_t.out, HB_b.out, HBO.out, HW.out⟩
              case measure => simp [intOf]; omega
          · have HV : Hid (o = none) := Lib.hid (by rw [← HFJ.out, show pn + 1 - i = 0 by omega]; rfl)
            go_wp2
            exact bodyPost_ret (v := .tuple #[.int .i64 0, .bool false, .int .i64 0]) (by simp [results, Tryz.results42, go_sem]) rfl ⟨by rw [HO.out.1, HO.out.2, HV.out]; rfl, HW.out⟩
      · have c_b_0 : w3'.cell? ⟨b_b, 0, none⟩ = some (.int .i64 2) := HB_b.out.2 0
        have c_b_1 : w3'.cell? ⟨b_b, 1, none⟩ = some (.int .i64 (kn : Int)) := HB_b.out.2 1
        have c_b_2 : w3'.cell? ⟨b_b, 2, none⟩ = some (.bool b) := HB_b.out.2 2
        have c_b_3 : w3'.cell? ⟨b_b, 3, none⟩ = some (.slice a1 n1 c1) := HB_b.out.2 3
        have c_b_4 : w3'.cell? ⟨b_b, 4, none⟩ = some (.slice a2 n2 c2) := HB_b.out.2 4
        have HFE : Hid (lnFrom 2 pn = 0) := Lib.hid rfl
        rw [HFE.out] at HFI
        clear HFE
        go_wp2
        clear c_b_0 c_b_1 c_b_2 c_b_3 c_b_4
        go_loopw [10] (fun i' wr => ∃ i : Nat, i ≤ pn + 1 ∧ i' = .int .i64 (i : Int) ∧ Hid (lnFind (lnDec 2 kn Q pn) i (pn + 1 - i) = o) ∧ (Box wr w.heap.size #[.int .i64 2, .int .i64 (kn : Int), .string n, .string m]) ∧ (Box wr b_b #[.int .i64 2, .int .i64 (kn : Int), .bool b, .slice a1 n1 c1, .slice a2 n2 c2]) ∧ (Bett wr 2 kn Q b a1 n1 c1 a2 n2 c2) ∧ (Below w.heap.size w wr)) (fun i' _ => pn + 1 - (intOf i').toNat)
        case atStart => exact ⟨0, by omega, rfl, HFI, HB_t.out, HB_b.out, HBO.out, HW.out⟩
        case round =>
          obtain ⟨i, hi, rfl, HFJ, q_HB_t, q_HB_b, q_HBO, q_HW⟩ := hrel
          clear HB_t HB_b HBO HW
          clear HFI
          have HB_t := Lib.hid q_HB_t
          have HB_b := Lib.hid q_HB_b
          have HBO := Lib.hid q_HBO
          have HW := Lib.hid q_HW
          clear q_HB_t q_HB_b q_HBO q_HW
          generalize hX : wr = X at *
          clear hX
          by_cases hlt : i ≤ pn
          · obtain ⟨j, hj⟩ : ∃ j, pn - i = j := ⟨_, rfl⟩
            have hij : i + j ≤ 60 := by omega
            have hji : j + i ≤ 60 := by omega
            have HJ := Lib.hid hj
            obtain ⟨k9, hk9⟩ : ∃ x, pn + 1 - i = x + 1 := ⟨pn - i, by omega⟩
            have HK9 : Hid (pn + 1 - (i + 1) = k9) := Lib.hid (by omega)
            rw [hk9] at HFJ
            clear hk9
            obtain ⟨r, hr⟩ : ∃ r, decB 2 kn Q j i = r := ⟨_, rfl⟩
            have HR1 := Lib.hid hr
            have HR2 : Hid (lnDec 2 kn Q pn i = r) := Lib.hid (by rw [← hr, ← hj]; rfl)
            have hjI : (pn : Int) - (i : Int) = (j : Int) := by omega
            have hbd : -9223372036854775808 ≤ (pn : Int) - (i : Int) ∧ (pn : Int) - (i : Int) ≤ 9223372036854775807 := by omega
            have e9 : IntKind.i64.wrap ((pn : Int) - (i : Int)) = (j : Int) := (IntWalk.i64_in _ hbd).trans hjI
            clear hr hj hjI hbd
            have c_b_0 : X.cell? ⟨b_b, 0, none⟩ = some (.int .i64 2) := HB_b.out.2 0
            have c_b_1 : X.cell? ⟨b_b, 1, none⟩ = some (.int .i64 (kn : Int)) := HB_b.out.2 1
            have c_b_2 : X.cell? ⟨b_b, 2, none⟩ = some (.bool b) := HB_b.out.2 2
            have c_b_3 : X.cell? ⟨b_b, 3, none⟩ = some (.slice a1 n1 c1) := HB_b.out.2 3
            have c_b_4 : X.cell? ⟨b_b, 4, none⟩ = some (.slice a2 n2 c2) := HB_b.out.2 4
            go_wp2_with fail
            refine (decides_is 2 kn j i Q hji b a1 n1 c1 a2 n2 c2 X HBO.out _ _ rfl rfl r HR1.out).mono ?_
            rintro e w4' ⟨rfl, hbz⟩
            replace HB_t := Lib.hid (HB_t.out.ext hbz)
            replace HB_b := Lib.hid (HB_b.out.ext hbz)
            replace HBO := Lib.hid (HBO.out.ext hbz)
            replace HW := Lib.hid (ext_trans HW.out hbz)
            clear c_b_0 c_b_1 c_b_2 c_b_3 c_b_4
            clear hbz
            clear e9
            cases r with
            | true =>
              have HV : Hid (o = some i) := Lib.hid (by rw [← HFJ.out]; exact lnFind_hit HR2.out)
              go_wp2
              exact bodyPost_ret (v := .tuple #[.int .i64 (i : Int), .bool true, .int .i64 0]) (by simp [results, Tryz.results42, go_sem]) rfl ⟨by rw [HO.out.1, HO.out.2, HV.out]; rfl, HW.out⟩
            | false =>
              have HV : Hid (lnFind (lnDec 2 kn Q pn) (i + 1) (pn + 1 - (i + 1)) = o) := Lib.hid (by rw [HK9.out, ← HFJ.out]; exact (lnFind_step HR2.out).symm)
              have e8 : IntKind.i64.wrap ((i : Int) + 1) = (i : Int) + 1 := IntWalk.i64_in _ (by omega)
              go_wp2
              go_roundw
              case rel => exact ⟨i + 1, by omega, by go_num, HV, HB_t.out, HB_b.out, HBO.out, HW.out⟩
              case measure => simp [intOf]; omega
          · have HV : Hid (o = none) := Lib.hid (by rw [← HFJ.out, show pn + 1 - i = 0 by omega]; rfl)
            go_wp2
            exact bodyPost_ret (v := .tuple #[.int .i64 0, .bool false, .int .i64 0]) (by simp [results, Tryz.results42, go_sem]) rfl ⟨by rw [HO.out.1, HO.out.2, HV.out]; rfl, HW.out⟩
      · have c_b_0 : w3'.cell? ⟨b_b, 0, none⟩ = some (.int .i64 3) := HB_b.out.2 0
        have c_b_1 : w3'.cell? ⟨b_b, 1, none⟩ = some (.int .i64 (kn : Int)) := HB_b.out.2 1
        have c_b_2 : w3'.cell? ⟨b_b, 2, none⟩ = some (.bool b) := HB_b.out.2 2
        have c_b_3 : w3'.cell? ⟨b_b, 3, none⟩ = some (.slice a1 n1 c1) := HB_b.out.2 3
        have c_b_4 : w3'.cell? ⟨b_b, 4, none⟩ = some (.slice a2 n2 c2) := HB_b.out.2 4
        have HFE : Hid (lnFrom 3 pn = (pn + 1) / 2) := Lib.hid rfl
        obtain ⟨fr, hfr⟩ : ∃ x, (pn + 1) / 2 = x := ⟨_, rfl⟩
        have hfrp : fr ≤ pn := by omega
        have HFR := Lib.hid hfr
        have e2 : ((pn : Int) + 1).tdiv 2 = (fr : Int) := by rw [Int.tdiv_eq_ediv_of_nonneg (by omega)]; omega
        have e1 : IntKind.i64.wrap ((pn : Int) + 1) = (pn : Int) + 1 := IntWalk.i64_in _ (by omega)
        rw [HFE.out, hfr] at HFI
        clear hfr HFE
        go_wp2
        clear e1 e2
        clear c_b_0 c_b_1 c_b_2 c_b_3 c_b_4
        go_loopw [10] (fun i' wr => ∃ i : Nat, i ≤ pn + 1 ∧ i' = .int .i64 (i : Int) ∧ Hid (lnFind (lnDec 3 kn Q pn) i (pn + 1 - i) = o) ∧ (Box wr w.heap.size #[.int .i64 3, .int .i64 (kn : Int), .string n, .string m]) ∧ (Box wr b_b #[.int .i64 3, .int .i64 (kn : Int), .bool b, .slice a1 n1 c1, .slice a2 n2 c2]) ∧ (Bett wr 3 kn Q b a1 n1 c1 a2 n2 c2) ∧ (Below w.heap.size w wr)) (fun i' _ => pn + 1 - (intOf i').toNat)
        case atStart => exact ⟨fr, by omega, rfl, HFI, HB_t.out, HB_b.out, HBO.out, HW.out⟩
        case round =>
          obtain ⟨i, hi, rfl, HFJ, q_HB_t, q_HB_b, q_HBO, q_HW⟩ := hrel
          clear HB_t HB_b HBO HW
          clear HFI
          have HB_t := Lib.hid q_HB_t
          have HB_b := Lib.hid q_HB_b
          have HBO := Lib.hid q_HBO
          have HW := Lib.hid q_HW
          clear q_HB_t q_HB_b q_HBO q_HW
          generalize hX : wr = X at *
          clear hX
          by_cases hlt : i ≤ pn
          · obtain ⟨j, hj⟩ : ∃ j, pn - i = j := ⟨_, rfl⟩
            have hij : i + j ≤ 60 := by omega
            have hji : j + i ≤ 60 := by omega
            have HJ := Lib.hid hj
            obtain ⟨k9, hk9⟩ : ∃ x, pn + 1 - i = x + 1 := ⟨pn - i, by omega⟩
            have HK9 : Hid (pn + 1 - (i + 1) = k9) := Lib.hid (by omega)
            rw [hk9] at HFJ
            clear hk9
            obtain ⟨r, hr⟩ : ∃ r, decB 3 kn Q i j = r := ⟨_, rfl⟩
            have HR1 := Lib.hid hr
            have HR2 : Hid (lnDec 3 kn Q pn i = r) := Lib.hid (by rw [← hr, ← hj]; rfl)
            have hjI : (pn : Int) - (i : Int) = (j : Int) := by omega
            have hbd : -9223372036854775808 ≤ (pn : Int) - (i : Int) ∧ (pn : Int) - (i : Int) ≤ 9223372036854775807 := by omega
            have e9 : IntKind.i64.wrap ((pn : Int) - (i : Int)) = (j : Int) := (IntWalk.i64_in _ hbd).trans hjI
            clear hr hj hjI hbd
            have c_b_0 : X.cell? ⟨b_b, 0, none⟩ = some (.int .i64 3) := HB_b.out.2 0
            have c_b_1 : X.cell? ⟨b_b, 1, none⟩ = some (.int .i64 (kn : Int)) := HB_b.out.2 1
            have c_b_2 : X.cell? ⟨b_b, 2, none⟩ = some (.bool b) := HB_b.out.2 2
            have c_b_3 : X.cell? ⟨b_b, 3, none⟩ = some (.slice a1 n1 c1) := HB_b.out.2 3
            have c_b_4 : X.cell? ⟨b_b, 4, none⟩ = some (.slice a2 n2 c2) := HB_b.out.2 4
            go_wp2_with fail
            refine (decides_is 3 kn i j Q hij b a1 n1 c1 a2 n2 c2 X HBO.out _ _ rfl rfl r HR1.out).mono ?_
            rintro e w4' ⟨rfl, hbz⟩
            replace HB_t := Lib.hid (HB_t.out.ext hbz)
            replace HB_b := Lib.hid (HB_b.out.ext hbz)
            replace HBO := Lib.hid (HBO.out.ext hbz)
            replace HW := Lib.hid (ext_trans HW.out hbz)
            clear c_b_0 c_b_1 c_b_2 c_b_3 c_b_4
            clear hbz
            clear e9
            cases r with
            | true =>
              have HV : Hid (o = some i) := Lib.hid (by rw [← HFJ.out]; exact lnFind_hit HR2.out)
              go_wp2
              exact bodyPost_ret (v := .tuple #[.int .i64 (i : Int), .bool true, .int .i64 0]) (by simp [results, Tryz.results42, go_sem]) rfl ⟨by rw [HO.out.1, HO.out.2, HV.out]; rfl, HW.out⟩
            | false =>
              have HV : Hid (lnFind (lnDec 3 kn Q pn) (i + 1) (pn + 1 - (i + 1)) = o) := Lib.hid (by rw [HK9.out, ← HFJ.out]; exact (lnFind_step HR2.out).symm)
              have e8 : IntKind.i64.wrap ((i : Int) + 1) = (i : Int) + 1 := IntWalk.i64_in _ (by omega)
              go_wp2
              go_roundw
              case rel => exact ⟨i + 1, by omega, by go_num, HV, HB_t.out, HB_b.out, HBO.out, HW.out⟩
              case measure => simp [intOf]; omega
          · have HV : Hid (o = none) := Lib.hid (by rw [← HFJ.out, show pn + 1 - i = 0 by omega]; rfl)
            go_wp2
            exact bodyPost_ret (v := .tuple #[.int .i64 0, .bool false, .int .i64 0]) (by simp [results, Tryz.results42, go_sem]) rfl ⟨by rw [HO.out.1, HO.out.2, HV.out]; rfl, HW.out⟩
    · have HO : Hid (lnF d k n m p = 1 ∧ lnO d k n m p = none) := by
        have e : lnF d k n m p = 1 := by unfold lnF; rw [if_neg (fun h => h hf), if_neg hp]
        exact Lib.hid ⟨e, by unfold lnO; rw [if_neg (by rw [e]; first | decide | assumption)]⟩
      go_wp2_with fail
      refine (dwithin_no _ _ _ (by omega) w3').mono ?_
      rintro e w' ⟨rfl, rfl⟩
      clear hf HBT hp
      go_wp2
      exact bodyPost_ret (v := .tuple #[.int .i64 0, .bool false, .int .i64 (1)]) (by simp [results, Tryz.results42, go_sem]) rfl ⟨by rw [HO.out.1, HO.out.2]; rfl, HW.out⟩
  · have HO : Hid (lnF d k n m p = testF d k n m ∧ lnO d k n m p = none) := by
      have e : lnF d k n m p = testF d k n m := by unfold lnF; rw [if_pos hf]
      exact Lib.hid ⟨e, by unfold lnO; rw [if_neg (by rw [e]; first | decide | assumption)]⟩
    have hne : (testF d k n m != 0) = true := by simp [hf]
    clear hf HBT
    go_wp2
    exact bodyPost_ret (v := .tuple #[.int .i64 0, .bool false, .int .i64 (testF d k n m)]) (by simp [results, Tryz.results42, go_sem]) rfl ⟨by rw [HO.out.1, HO.out.2]; rfl, HW.out⟩
end Nt
end Go.Proofs.YtmnmepbljegjeaaGreatDoor
