/- capitals of package decide. -/
import Derived.Test.YtkinapdfmgfdfaaPow
import Derived.Deep.Cut
namespace Go.Proofs.Ytkinapdfmgfdfaa
open Go.RowKit
namespace Nm
/-- the sum of the first capitals -/
def capS (bets up down : Nat) : Nat → Nat
  | 0 => 0
  | k + 1 => capS bets up down k + (bets + 1 + (k + 1)) ^ up * (bets + 1 - (k + 1)) ^ down
def capN (bets up down : Nat) : Nat := capS bets up down bets
/-- a bettor as it lies in five cells -/
abbrev betA (d k : Int) (b : Bool) (a1 : Option Addr) (n1 c1 : Nat) (a2 : Option Addr) (n2 c2 : Nat) : Array Value := #[.int .i64 d, .int .i64 k, .bool b, .slice a1 n1 c1, .slice a2 n2 c2]
theorem power_is (z t : Int) (n to : Nat) (hz : z = (n : Int)) (ht : t = (to : Int)) (hn : n < 4294967296) (hto : to ≤ 1000000) (w : World) : Calls Try.prog 38 #[.int .i64 z, .int .i64 t] w (NPost w (n ^ to)) := by
  subst hz ht; exact power_at n to hn hto w
theorem cap_term {n m up down : Nat} (hn : n ≤ 11) (hm : m ≤ 11) (hu : up ≤ 60) (hd : down ≤ 60) : n ^ up * m ^ down ≤ 11 ^ 120 := by
  have h1 : n ^ up ≤ 11 ^ 60 := Nat.le_trans (Nat.pow_le_pow_left hn up) (Nat.pow_le_pow_right (by decide) hu)
  have h2 : m ^ down ≤ 11 ^ 60 := Nat.le_trans (Nat.pow_le_pow_left hm down) (Nat.pow_le_pow_right (by decide) hd)
  rw [show (11 : Nat) ^ 120 = 11 ^ 60 * 11 ^ 60 from by decide]; exact Nat.mul_le_mul h1 h2
theorem capS_le (bets up down : Nat) (hb : bets ≤ 5) (hu : up ≤ 60) (hd : down ≤ 60) : ∀ k, k ≤ bets → capS bets up down k ≤ k * 11 ^ 120
  | 0, _ => by rw [show capS bets up down 0 = 0 from rfl]; exact Nat.zero_le _
  | k + 1, hk => by
    have h1 := capS_le bets up down hb hu hd k (by omega)
    have h2 := cap_term (n := bets + 1 + (k + 1)) (m := bets + 1 - (k + 1)) (by omega) (by omega) hu hd
    rw [Nat.add_mul, Nat.one_mul]
    exact Nat.add_le_add h1 h2
theorem capS_wlen (bets up down : Nat) (hb : bets ≤ 5) (hu : up ≤ 60) (hd : down ≤ 60) (k : Nat) (hk : k ≤ bets) : wlen (capS bets up down k) ≤ 14 := by
  apply wlen_le
  refine Nat.lt_of_le_of_lt (capS_le bets up down hb hu hd k hk) (Nat.lt_of_le_of_lt (Nat.mul_le_mul_right _ (show k ≤ 5 by omega)) ?_)
  decide
set_option maxHeartbeats 4000000 in
theorem capitals_at (d : Int) (bets up down : Nat) (hbt : bets ≤ 5) (hu : up ≤ 60) (hd : down ≤ 60) (b : Bool) (a1 : Option Addr) (n1 c1 : Nat) (a2 : Option Addr) (n2 c2 : Nat) (w : World) :
    Calls Try.prog 36 #[.agg (betA d bets b a1 n1 c1 a2 n2 c2), .int .i64 (up : Int), .int .i64 (down : Int)] w (NPost w (capN bets up down)) := by
  have hx1 := fun w => xnatOf_at 0 (by decide) w
  rw [show ((0 : Nat) : Int) = 0 from rfl] at hx1
  have HX1 := Lib.hid hx1
  clear hx1
  go_enter Try.func36, Try.ntmps36
  go_upto_region 1 with (fail)
  refine wp_box1 fun W hsz hbW hA => ?_
  clear hsz
  go_wp2_with fail
  refine (HX1.out _).mono ?_
  rintro e w1 ⟨v, rfl, hv, hb1⟩
  have hA1 := hA.ext hb1
  have hbw1 := ext_trans hbW hb1
  clear hb1 hA hbW
  go_wp2
  go_loopw [7, 8] (fun o i wr => ∃ k : Nat, k ≤ bets ∧ i = .int .i64 ((k + 1 : Nat) : Int) ∧ N wr o (capS bets up down k) ∧ Box wr w.heap.size (betA d bets b a1 n1 c1 a2 n2 c2) ∧ Below w.heap.size w wr) (fun _ i _ => bets + 1 - (intOf i).toNat)
  case atStart => exact ⟨0, by omega, rfl, hv, hA1, hbw1⟩
  case round =>
    obtain ⟨k, hk, rfl, ho, hB, hb⟩ := hrel
    clear hv hA1 hbw1
    obtain ⟨_, hB2⟩ := id hB
    have q1 : wr.cell? ⟨w.heap.size, 1, none⟩ = some (.int .i64 bets) := hB2 1
    clear hB2
    by_cases hlt : k < bets
    · have hwl := capS_wlen bets up down hbt hu hd k hk
      have hwp1 := wlen_pow (show bets + 1 + (k + 1) < B from by unfold B; omega) up
      have hwp2 := wlen_pow (show bets + 1 - (k + 1) < B from by unfold B; omega) down
      have hwm := wlen_mul ((bets + 1 + (k + 1)) ^ up) ((bets + 1 - (k + 1)) ^ down)
      have HW := Lib.hid (And.intro hwl (And.intro hwp1 (And.intro hwp2 hwm)))
      clear hwl hwp1 hwp2 hwm
      have HS : Hid (capS bets up down k + (bets + 1 + (k + 1)) ^ up * (bets + 1 - (k + 1)) ^ down = capS bets up down (k + 1)) := rfl
      have e1 : IntKind.i64.wrap ((bets : Int) + 1) = (bets : Int) + 1 := IntWalk.i64_in _ (by omega)
      have e2 : IntKind.i64.wrap ((bets : Int) + 1 + ((k : Int) + 1)) = (bets : Int) + 1 + ((k : Int) + 1) := IntWalk.i64_in _ (by omega)
      have e3 : IntKind.i64.wrap ((bets : Int) + 1 - ((k : Int) + 1)) = (bets : Int) + 1 - ((k : Int) + 1) := IntWalk.i64_in _ (by omega)
      have HO := Lib.hid ho
      have tok1 : True := trivial
      go_wp2_with fail
      generalize hX : wr = X at *
      clear hX
      go_region_held3 (S2R X w.heap.size w.heap.size (betA d bets b a1 n1 c1 a2 n2 c2) w.heap.size (betA d bets b a1 n1 c1 a2 n2 c2)) (first | exact S2R.start hB hB | exact S2R.ext (by with_reducible assumption) (by with_reducible assumption) (by omega) hB hB | assumption) (first | (have _t := tok1; go_at_call 38; refine (power_is _ _ (bets + 1 + (k + 1)) up (by omega) rfl (by omega) (by omega) _).mono ?_; rintro e w2 ⟨v2, rfl, h2, hb2⟩; have hc2 := Lib.hid (ext_trans (Below.refl X.heap.size X).drew hb2); have H2 := Lib.hid h2; clear tok1 h2) | (go_at_call 38; refine (power_is _ _ (bets + 1 - (k + 1)) down (by omega) rfl (by omega) (by omega) _).mono ?_; rintro e w3 ⟨v3, rfl, h3, hb3⟩; have hc3 := Lib.hid (ext_trans hc2.out hb3); have H23 := Lib.hid (H2.out.ext hb3); have H3 := Lib.hid h3; clear h3) | (go_at_call 39; refine (times_at _ _ _ _ _ H23.out H3.out (by have := HW.out; omega) (by have := HW.out; omega)).mono ?_; rintro e w4 ⟨v4, rfl, h4, hb4⟩; have hc4 := Lib.hid (ext_trans hc3.out hb4); have H4 := Lib.hid h4; clear h4) | (go_at_call 35; refine (add_at _ _ _ _ _ (HO.out.ext hc4.out) H4.out (by have := HW.out; omega) (by have := HW.out; omega)).mono ?_; rintro e w5 ⟨v5, rfl, h5, hb5⟩; have hc5 := Lib.hid (ext_trans hc4.out hb5); have H5 := Lib.hid h5; clear h5))
      go_wp2
      go_roundw
      case rel => exact ⟨k + 1, by omega, by go_num, by rw [← HS.out]; exact H5.out, hB.ext hc5.out, ext_trans hb hc5.out⟩
      case measure => simp [intOf]; omega
    · have hkb : k = bets := by omega
      subst hkb
      go_wp2
      go_ret
      exact ⟨_, rfl, ho, hb⟩
end Nm
end Go.Proofs.Ytkinapdfmgfdfaa
