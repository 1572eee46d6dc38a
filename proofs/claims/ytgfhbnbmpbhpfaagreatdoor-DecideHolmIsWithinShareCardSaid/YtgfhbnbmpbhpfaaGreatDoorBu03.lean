/- Times of package value. power and capitals of package decide, power of package metric. capitals of package decide. Exact numbers: plain mathematics over the core's Rat. small, shifted, lowered of package value. -/
import Derived.Test.YtgfhbnbmpbhpfaaGreatDoorBu02
import Derived.Test.YtgfhbnbmpbhpfaaGreatDoorBu00
import Derived.Deep.RegionHeld3
import Derived.Deep.Cut
import Derived.Test.YtgfhbnbmpbhpfaaGreatDoorBu01
import Derived.Laws.BitsAllLaws
namespace Go.Proofs.YtgfhbnbmpbhpfaaGreatDoor
open Go.RowKit
namespace Nm
theorem mul_step {Pi Pk V V' V0 cr X Y O vk z q : Nat} (hset : V' + Pi * Pk * O = V + Pi * Pk * z) (hinv : V + Pi * Pk * cr = V0 + Pi * (X * vk)) (hs : z + B * q = cr + (X * Y + O)) : V' + Pi * (Pk * B) * q = V0 + Pi * (X * (vk + Pk * Y)) := by
  have e : Pi * Pk * (z + B * q) = Pi * Pk * (cr + (X * Y + O)) := by rw [hs]
  rw [Nat.mul_add, Nat.mul_add, Nat.mul_add] at e
  have e1 : Pi * (Pk * B) * q = Pi * Pk * (B * q) := by ac_rfl
  have e2 : Pi * (X * (vk + Pk * Y)) = Pi * (X * vk) + Pi * Pk * (X * Y) := by
    rw [Nat.mul_add, Nat.mul_add]; congr 1; ac_rfl
  omega
theorem mul_le {X Y : Nat} (hX : X < 4294967296) (hY : Y < 4294967296) : (X : Int) * (Y : Int) ≤ 18446744065119617025 ∧ 0 ≤ (X : Int) * (Y : Int) := by
  have h : X * Y ≤ 4294967295 * 4294967295 := Nat.mul_le_mul (by omega) (by omega)
  have h2 : ((X * Y : Nat) : Int) = (X : Int) * (Y : Int) := Int.natCast_mul _ _
  omega
theorem val_take_set_in (l : List Nat) (k y T : Nat) (h : k < T) (hT : T ≤ l.length) : val ((l.set k y).take T) + B ^ k * l[k]'(by omega) = val (l.take T) + B ^ k * y := by
  have h1 : k < (l.take T).length := by rw [List.length_take]; omega
  have := val_set (l.take T) k y h1
  rw [List.take_set]
  simpa using this
set_option maxHeartbeats 8000000 in
theorem times_at (x y : Nat) (v u : Value) (w : World) (hx : N w v x) (hy : N w u y) (hxl : wlen x ≤ 1000000000) (hyl : wlen y ≤ 1000000000) : Calls Tryz.prog 148 #[v, u] w (NPost w (x * y)) := by
  obtain ⟨a, c, rfl, s1⟩ := hx.open_
  obtain ⟨a', c', rfl, s2⟩ := hy.open_
  obtain ⟨p1, p2⟩ := sl_caps s1
  obtain ⟨q1, q2⟩ := sl_caps s2
  have HX := Lib.hid (digs_dg x)
  have HY := Lib.hid (digs_dg y)
  unfold wlen at hxl hyl
  clear hx hy
  go_enter Tryz.func148, Tryz.ntmps148
  go_wp2_with (refine wpList_make_words rfl _ _ rfl ((digs x).length + (digs y).length) rfl rfl ?_ ?_ ?_; rotate_left 2; intro W hO hB hsz)
  case refine_1 => go_num
  case refine_2 => omega
  clear hsz
  have HZ : Hid (val ((List.replicate ((digs x).length + (digs y).length) 0).take (0 + (digs y).length)) = val ((digs x).take 0) * y) := by
    have : val ((List.replicate ((digs x).length + (digs y).length) 0).take (0 + (digs y).length)) = val ((digs x).take 0) * y := by rw [List.take_replicate, val_zeros]; simp [val]
    exact this
  go_loopw [19] (fun iv wr => ∃ (i : Nat) (out : List Nat), i ≤ (digs x).length ∧ iv = .int .i64 i ∧ Hid (out.length = (digs x).length + (digs y).length) ∧ Hid (Dg out) ∧ Hid (val (out.take (i + (digs y).length)) = val ((digs x).take i) * y) ∧ Own wr w.heap.size out ∧ Below w.heap.size w wr) (fun iv _ => (digs x).length - (intOf iv).toNat)
  case atStart => exact ⟨0, List.replicate ((digs x).length + (digs y).length) 0, by omega, rfl, by have := @List.length_replicate Nat ((digs x).length + (digs y).length) 0; exact this, Dg.zeros _, HZ, hO, hB⟩
  case round =>
    obtain ⟨i, out0, hi, rfl, HL, HDo, HV, hOk, hBk⟩ := hrel
    by_cases hlt : i < (digs x).length
    · obtain ⟨b, o, rfl, e0⟩ := sl_addr (s1.ext hBk) (wcs_get hlt)
      have hX := HX.out.get hlt
      have HV1 := Lib.hid (val_take_succ (digs x) i hlt)
      generalize (digs x)[i] = X at *
      rw [B_eq] at hX
      have HZ2 : Hid (val (out0.take (i + (digs y).length)) + B ^ i * B ^ 0 * 0 = val ((digs x).take i) * y + B ^ i * (X * val ((digs y).take 0))) := by
        have : val (out0.take (i + (digs y).length)) + B ^ i * B ^ 0 * 0 = val ((digs x).take i) * y + B ^ i * (X * val ((digs y).take 0)) := by rw [HV.out]; simp [val]
        exact this
      clear HV
      go_wp2
      go_loopw [8, 26] (fun cv kv wr => ∃ (k cr : Nat) (out : List Nat), k ≤ (digs y).length ∧ kv = .int .i64 k ∧ cv = .int .u64 cr ∧ cr < 4294967296 ∧ Hid (out.length = (digs x).length + (digs y).length) ∧ Hid (Dg out) ∧ Hid (val (out.take (i + (digs y).length)) + B ^ i * B ^ k * cr = val ((digs x).take i) * y + B ^ i * (X * val ((digs y).take k))) ∧ Own wr w.heap.size out ∧ Below w.heap.size w wr) (fun _ kv _ => (digs y).length - (intOf kv).toNat)
      case atStart => exact ⟨0, 0, out0, by omega, rfl, rfl, by omega, HL, HDo, HZ2, hOk, hBk⟩
      case round =>
        clear hOk hBk HL HDo HZ2 e0
        obtain ⟨k, cr, out, hk, rfl, rfl, hcr, HL, HDo, HV, hOk, hBk⟩ := hrel
        by_cases hlk : k < (digs y).length
        · obtain ⟨b', o', rfl, f0⟩ := sl_addr (s2.ext hBk) (wcs_get hlk)
          have hY := HY.out.get hlk
          have hko : i + k < out.length := by have := HL.out; omega
          have o0 := hOk.cell hko
          have o1 := hOk.frozen (i + k)
          have hOo := HDo.out.get hko
          have hV2 := val_take_succ (digs y) k hlk
          have hset := fun z => val_take_set_in out (i + k) z (i + (digs y).length) (by omega) (by have := HL.out; omega)
          generalize out[i + k] = O at *
          generalize (digs y)[k] = Y at *
          rw [B_eq] at hY hOo
          obtain ⟨hm1, hm2⟩ := mul_le hX hY
          have hm3 : ((X * Y : Nat) : Int) = (X : Int) * (Y : Int) := Int.natCast_mul _ _
          have HR : Hid (val ((out.set (i + k) ((cr + (X * Y + O)) % 4294967296)).take (i + (digs y).length)) + B ^ i * B ^ (k + 1) * ((cr + (X * Y + O)) / 4294967296) = val ((digs x).take i) * y + B ^ i * (X * val ((digs y).take (k + 1)))) := by
            have h1 := hset ((cr + (X * Y + O)) % 4294967296)
            rw [Nat.pow_add] at h1
            have h2 := mul_step (Y := Y) h1 HV.out (q := (cr + (X * Y + O)) / 4294967296) (by rw [B_eq]; exact Nat.mod_add_div _ _)
            rw [hV2, Nat.pow_succ]; exact h2
          have HM := Lib.hid hm3
          clear hset hV2 hm3
          go_wp2
          go_roundw
          case rel => exact ⟨k + 1, (cr + (X * Y + O)) / 4294967296, out.set (i + k) ((cr + (X * Y + O)) % 4294967296), by omega, by go_num, by rw [← HM.out]; go_num, by have := HM.out; omega, Hid.len_set HL _ _, Hid.dg_set HDo _ (Nat.mod_lt _ B_pos), HR, hOk.set' hko _ (by rw [← HM.out]; omega), hBk.setCell (Nat.le_refl _) _⟩
          case measure => simp [intOf]; omega
        · obtain rfl : k = (digs y).length := by omega
          have hko : i + (digs y).length < out.length := by have := HL.out; omega
          have o0 := hOk.cell hko
          have o1 := hOk.frozen (i + (digs y).length)
          have HR : Hid (val ((out.set (i + (digs y).length) cr).take (i + 1 + (digs y).length)) = val ((digs x).take (i + 1)) * y) := by
            have h1 := val_take_set out (i + (digs y).length) cr hko
            have h2 := HV.out
            rw [List.take_length, val_digs] at h2
            rw [Nat.add_right_comm, h1, Nat.pow_add, h2, HV1.out, Nat.add_mul, Nat.mul_assoc]; exact Lib.hid rfl
          go_wp2
          go_roundw
          case rel => exact ⟨i + 1, out.set (i + (digs y).length) cr, by omega, by go_num, Hid.len_set HL _ _, Hid.dg_set HDo _ (by rw [B_eq]; omega), HR, hOk.set' hko _ (by omega), hBk.setCell (Nat.le_refl _) _⟩
          case measure => simp [intOf]; omega
    · obtain rfl : i = (digs x).length := by omega
      have HF : Hid (val out0 = x * y) := by
        have h1 := HV.out
        rw [List.take_of_length_le (by rw [HL.out]; omega), List.take_length, val_digs] at h1
        exact h1
      clear HV
      go_wp2_with fail
      have hs := hOk.sl (c := (digs x).length + (digs y).length) (by rw [HL.out]; omega) (by unfold maxLen; omega)
      have hT := trim_at out0 HDo.out _ _ hs
      rw [HL.out, HF.out] at hT
      refine Calls.mono hT ?_
      rintro e w' ⟨v, rfl, hv, rfl⟩
      clear hT hs
      go_wp2
      go_ret
      exact ⟨_, rfl, hv, hBk⟩
end Nm
end Go.Proofs.YtgfhbnbmpbhpfaaGreatDoor
namespace Go.Proofs.YtgfhbnbmpbhpfaaGreatDoor
open Go.RowKit
namespace Nm
theorem wlen_one {n : Nat} (h : n < B) : wlen n ≤ 1 := wlen_le (by rw [Nat.pow_one]; exact h)
theorem wlen_pow {n : Nat} (h : n < B) : ∀ k, wlen (n ^ k) ≤ k + 1
  | 0 => by rw [Nat.pow_zero]; exact wlen_one (by decide)
  | k + 1 => by
    rw [Nat.pow_succ]
    have h1 := wlen_mul (n ^ k) n
    have h2 := wlen_pow h k
    have h3 := wlen_one h
    omega
set_option maxHeartbeats 1000000 in
theorem power_at (n ex : Nat) (hn : n < 4294967296) (ht : ex ≤ 1000000) (w : World) : Calls Tryz.prog 206 #[.int .i64 (n : Int), .int .i64 (ex : Int)] w (NPost w (n ^ ex)) := by
  have hx1 := xnatOf_at 1 (by decide) w
  rw [show ((1 : Nat) : Int) = 1 from rfl] at hx1
  have HX1 := Lib.hid hx1
  clear hx1
  go_enter Tryz.func206, Tryz.ntmps206
  go_wp2_with fail
  refine HX1.out.mono ?_
  rintro e w1 ⟨v, rfl, hv, hb1⟩
  go_wp2
  go_loopw [5, 8] (fun o i wr => ∃ k : Nat, k ≤ ex ∧ i = .int .i64 k ∧ N wr o (n ^ k) ∧ Below w.heap.size w wr) (fun _ i _ => ex - (intOf i).toNat)
  case atStart => exact ⟨0, by omega, rfl, by rw [Nat.pow_zero]; exact hv, hb1⟩
  case round =>
    obtain ⟨k, hk, rfl, ho, hb⟩ := hrel
    clear hv hb1
    by_cases hlt : k < ex
    · go_wp2_with fail
      refine (xnatOf_at n (by omega) _).mono ?_
      rintro e w2 ⟨v2, rfl, h2, hb2⟩
      have h1 := wlen_pow (show n < B from hn) k
      have h3 := wlen_one (show n < B from hn)
      go_wp2_with fail
      refine (times_at (n ^ k) n _ _ _ (ho.ext hb2) h2 (by omega) (by omega)).mono ?_
      rintro e w3 ⟨v3, rfl, h4, hb3⟩
      have hb4 := ext_trans (ext_trans hb hb2) hb3
      clear ho h2 hb2 hb3 hb
      go_wp2
      go_roundw
      case rel => exact ⟨k + 1, by omega, by go_num, by rw [Nat.pow_succ]; exact h4, hb4⟩
      case measure => simp [intOf]; omega
    · have hkt : k = ex := by omega
      subst hkt
      go_wp2
      go_ret
      exact ⟨_, rfl, ho, hb⟩
end Nm
end Go.Proofs.YtgfhbnbmpbhpfaaGreatDoor
namespace Go.Proofs.YtgfhbnbmpbhpfaaGreatDoor
open Go.RowKit
namespace Nm
/-- the sum of the first capitals -/
def capS (bets up down : Nat) : Nat → Nat
  | 0 => 0
  | k + 1 => capS bets up down k + (bets + 1 + (k + 1)) ^ up * (bets + 1 - (k + 1)) ^ down
def capN (bets up down : Nat) : Nat := capS bets up down bets
/-- a bettor as it lies in five cells -/
abbrev betA (d k : Int) (b : Bool) (a1 : Option Addr) (n1 c1 : Nat) (a2 : Option Addr) (n2 c2 : Nat) : Array Value := #[.int .i64 d, .int .i64 k, .bool b, .slice a1 n1 c1, .slice a2 n2 c2]
end Nm
end Go.Proofs.YtgfhbnbmpbhpfaaGreatDoor
namespace Go.Proofs.YtgfhbnbmpbhpfaaGreatDoor
namespace Nm
def sgn (b : Bool) (n : Nat) : Int := if b then -(n : Int) else (n : Int)
theorem sgn_natAbs (b : Bool) (n : Nat) : (sgn b n).natAbs = n := by cases b <;> simp [sgn]
theorem sgn_self (z : Int) : sgn (decide (z < 0)) z.natAbs = z := by
  by_cases h : z < 0
  · simp [sgn, h]; omega
  · simp [sgn, h]; omega
theorem norm_den (b : Bool) (n d : Nat) (hd : d ≠ 0) : (Rat.normalize (sgn b n) d hd).den = d / n.gcd d := by
  rw [Rat.normalize_eq]; simp only [sgn_natAbs]
theorem norm_num (b : Bool) (n d : Nat) (hd : d ≠ 0) : (Rat.normalize (sgn b n) d hd).num = sgn b (n / n.gcd d) := by
  rw [Rat.normalize_eq]; simp only [sgn_natAbs]
  cases b
  · simp [sgn]
  · simp only [sgn, if_true]
    rw [Int.neg_ediv_of_dvd (Int.natCast_dvd_natCast.2 (Nat.gcd_dvd_left n d))]
    simp
theorem norm_abs (b : Bool) (n d : Nat) (hd : d ≠ 0) : (Rat.normalize (sgn b n) d hd).num.natAbs = n / n.gcd d := by
  rw [norm_num, sgn_natAbs]
theorem norm_neg (b : Bool) (n d : Nat) (hd : d ≠ 0) : decide ((Rat.normalize (sgn b n) d hd).num < 0) = (b && decide (0 < n / n.gcd d)) := by
  rw [norm_num]
  generalize n / n.gcd d = m
  cases b
  · simp [sgn]
  · simp [sgn]
theorem normalize_congr {a b : Int} {d : Nat} (hd hd' : d ≠ 0) (h : a = b) : Rat.normalize a d hd = Rat.normalize b d hd' := by subst h; rfl
/-- the sum by signs -/
theorem add_same {x y : Rat} (h : decide (x.num < 0) = decide (y.num < 0)) : x.num * (y.den : Int) + y.num * (x.den : Int) = sgn (decide (x.num < 0)) (x.num.natAbs * y.den + y.num.natAbs * x.den) := by
  have hx := sgn_self x.num
  have hy := sgn_self y.num
  rw [← h] at hy
  generalize decide (x.num < 0) = b at *
  conv => lhs; rw [← hx, ← hy]
  generalize x.num.natAbs = m
  generalize y.num.natAbs = n
  cases b
  · simp [sgn]
  · simp [sgn, Int.neg_mul]; omega
theorem add_less {x y : Rat} (h : decide (x.num < 0) ≠ decide (y.num < 0)) (hl : x.num.natAbs * y.den < y.num.natAbs * x.den) : x.num * (y.den : Int) + y.num * (x.den : Int) = sgn (decide (y.num < 0)) (y.num.natAbs * x.den - x.num.natAbs * y.den) := by
  have hx := sgn_self x.num
  have hy := sgn_self y.num
  have hn : decide (x.num < 0) = !decide (y.num < 0) := by revert h; cases decide (x.num < 0) <;> cases decide (y.num < 0) <;> simp
  rw [hn] at hx
  generalize decide (y.num < 0) = b at *
  conv => lhs; rw [← hx, ← hy]
  generalize x.num.natAbs = m at *
  generalize y.num.natAbs = n at *
  have hc : ((n * x.den - m * y.den : Nat) : Int) = (n : Int) * (x.den : Int) - (m : Int) * (y.den : Int) := by rw [Int.ofNat_sub (Nat.le_of_lt hl), Int.natCast_mul, Int.natCast_mul]
  cases b
  · simp only [sgn, Bool.not_false, if_true]; simp [hc, Int.neg_mul]; omega
  · simp only [sgn, Bool.not_true, if_true]; simp [hc, Int.neg_mul]; omega
theorem add_more {x y : Rat} (h : decide (x.num < 0) ≠ decide (y.num < 0)) (hl : y.num.natAbs * x.den ≤ x.num.natAbs * y.den) : x.num * (y.den : Int) + y.num * (x.den : Int) = sgn (decide (x.num < 0)) (x.num.natAbs * y.den - y.num.natAbs * x.den) := by
  have hx := sgn_self x.num
  have hy := sgn_self y.num
  have hn : decide (y.num < 0) = !decide (x.num < 0) := by revert h; cases decide (x.num < 0) <;> cases decide (y.num < 0) <;> simp
  rw [hn] at hy
  generalize decide (x.num < 0) = b at *
  conv => lhs; rw [← hx, ← hy]
  generalize x.num.natAbs = m at *
  generalize y.num.natAbs = n at *
  have hc : ((m * y.den - n * x.den : Nat) : Int) = (m : Int) * (y.den : Int) - (n : Int) * (x.den : Int) := by rw [Int.ofNat_sub hl, Int.natCast_mul, Int.natCast_mul]
  cases b
  · simp only [sgn, Bool.not_false, if_true]; simp [hc, Int.neg_mul]; omega
  · simp only [sgn, Bool.not_true, if_true]; simp [hc, Int.neg_mul]; omega
theorem more_pos {x y : Rat} (h : decide (x.num < 0) ≠ decide (y.num < 0)) (hl : y.num.natAbs * x.den ≤ x.num.natAbs * y.den) : 0 < x.num.natAbs * y.den := by
  rcases Nat.eq_zero_or_pos (x.num.natAbs * y.den) with h0 | h0
  · exfalso
    have h1 : y.num.natAbs * x.den = 0 := by omega
    have hx : x.num.natAbs = 0 := by rcases Nat.mul_eq_zero.1 h0 with h | h; exact h; exact absurd h y.den_nz
    have hy : y.num.natAbs = 0 := by rcases Nat.mul_eq_zero.1 h1 with h | h; exact h; exact absurd h x.den_nz
    apply h
    have e1 : x.num = 0 := by omega
    have e2 : y.num = 0 := by omega
    rw [e1, e2]
  · exact h0
theorem mul_sgn (x y : Rat) : x.num * y.num = sgn (decide (x.num < 0) != decide (y.num < 0)) (x.num.natAbs * y.num.natAbs) := by
  have hx := sgn_self x.num
  have hy := sgn_self y.num
  generalize decide (x.num < 0) = b at *
  generalize decide (y.num < 0) = c at *
  conv => lhs; rw [← hx, ← hy]
  generalize x.num.natAbs = m
  generalize y.num.natAbs = n
  cases b <;> cases c <;> simp [sgn, Int.neg_mul, Int.mul_neg]
theorem den_pos (x y : Rat) : x.den * y.den ≠ 0 := Nat.mul_ne_zero x.den_nz y.den_nz
theorem inv_facts {x : Rat} (h : x.num ≠ 0) : x⁻¹.num.natAbs = x.den ∧ x⁻¹.den = x.num.natAbs ∧ decide (x⁻¹.num < 0) = decide (x.num < 0) ∧ x⁻¹.num ≠ 0 := by
  have h1 := Rat.num_inv x
  have h2 := Rat.den_inv x
  have hd := x.den_nz
  refine ⟨?_, ?_, ?_, ?_⟩
  · rw [h1, Int.natAbs_mul, Int.natAbs_sign_of_ne_zero h]; simp
  · rw [h2, if_neg h]
  · rw [h1]
    rcases Int.lt_or_gt_of_ne h with h3 | h3
    · rw [Int.sign_eq_neg_one_of_neg h3]; simp [h3]; omega
    · rw [Int.sign_eq_one_of_pos h3]; simp; omega
  · rw [h1]
    rcases Int.lt_or_gt_of_ne h with h3 | h3
    · rw [Int.sign_eq_neg_one_of_neg h3]; omega
    · rw [Int.sign_eq_one_of_pos h3]; omega
end Nm
end Go.Proofs.YtgfhbnbmpbhpfaaGreatDoor
namespace Go.Proofs.YtgfhbnbmpbhpfaaGreatDoor
open Go.RowKit
namespace Nm
theorem or64 {r X : Nat} (hr : r < 4294967296) (hX : X < 4294967296) : bits BinOp.or IntKind.u64 ((r : Int) * 4294967296) (X : Int) = (r : Int) * 4294967296 + (X : Int) := by
  have h := u64_or_nat (4294967296 * r) X (by omega) (by omega)
  have h2 := Nat.two_pow_add_eq_or_of_lt (i := 32) (b := X) (by simpa using hX) r
  rw [show (2 : Nat) ^ 32 = 4294967296 by decide] at h2
  rw [← h2] at h
  rw [show ((r : Int) * 4294967296) = ((4294967296 * r : Nat) : Int) by omega, h]; omega
/-- a number of two words divided by a word -/
theorem div_word {r X n : Nat} (hr : r < n) (hX : X < 4294967296) : ∃ q r', r * 4294967296 + X = q * n + r' ∧ r' < n ∧ q < 4294967296 ∧
    ((r : Int) * 4294967296 + (X : Int)).tdiv (n : Int) = (q : Int) ∧ ((r : Int) * 4294967296 + (X : Int)).tmod (n : Int) = (r' : Int) ∧ ((r : Int) * 4294967296 + (X : Int)) / (n : Int) = (q : Int) ∧ ((r : Int) * 4294967296 + (X : Int)) % (n : Int) = (r' : Int) := by
  have hc : ((r : Int) * 4294967296 + (X : Int)) = ((r * 4294967296 + X : Nat) : Int) := by omega
  have hq : (r * 4294967296 + X) / n < 4294967296 := by
    rw [Nat.div_lt_iff_lt_mul (by omega)]
    have : (r + 1) * 4294967296 ≤ n * 4294967296 := Nat.mul_le_mul_right _ hr
    omega
  refine ⟨(r * 4294967296 + X) / n, (r * 4294967296 + X) % n, (Nat.div_add_mod' _ _).symm, Nat.mod_lt _ (by omega), hq, ?_, ?_, ?_, ?_⟩
  · rw [hc]; rfl
  · rw [hc]; rfl
  · rw [hc]; rfl
  · rw [hc]; rfl
theorem small_step {D V n r X q r' : Nat} (hV : D = V * n + r) (h : r * 4294967296 + X = q * n + r') : X + B * D = (q + B * V) * n + r' := by
  subst hV
  rw [B_eq, Nat.add_mul, Nat.mul_add, Nat.mul_assoc]
  omega
/-- a quotient, and a word -/
def SmallPost (w : World) (q r : Nat) (e : Ending) (w' : World) : Prop := ∃ v, e = .returned (.tuple #[v, .int .u32 (r : Int)]) ∧ N w' v q ∧ Below w.heap.size w w'
set_option maxHeartbeats 8000000 in
theorem small_at (x n : Nat) (v : Value) (w : World) (hx : N w v x) (hxl : wlen x ≤ 1000000000) (hn : 0 < n) (hn2 : n < 4294967296) : Calls Tryz.prog 181 #[v, .int .u32 (n : Int)] w (SmallPost w (x / n) (x % n)) := by
  obtain ⟨a, c, rfl, s1⟩ := hx.open_
  obtain ⟨p1, p2⟩ := sl_caps s1
  have HX := Lib.hid (digs_dg x)
  unfold wlen at hxl
  clear hx
  go_enter Tryz.func181, Tryz.ntmps181
  go_wp2_with (refine wpList_make_words rfl _ _ rfl (digs x).length rfl rfl ?_ ?_ ?_; rotate_left 2; intro W hO hB hsz)
  case refine_1 => go_num
  case refine_2 => omega
  clear hsz
  have HZ : Hid (val ((digs x).drop (digs x).length) = val ((List.replicate (digs x).length 0).drop (digs x).length) * n + 0) := by
    have : val ((digs x).drop (digs x).length) = val ((List.replicate (digs x).length 0).drop (digs x).length) * n + 0 := by simp [val]
    exact this
  go_loopw [7, 8] (fun rv iv wr => ∃ (k r : Nat) (out : List Nat), k ≤ (digs x).length ∧ iv = .int .i64 ((k : Int) - 1) ∧ rv = .int .u64 r ∧ r < n ∧ Hid (out.length = (digs x).length) ∧ Hid (Dg out) ∧ Hid (val ((digs x).drop k) = val (out.drop k) * n + r) ∧ Own wr w.heap.size out ∧ Below w.heap.size w wr) (fun _ iv _ => (intOf iv + 1).toNat)
  case atStart => exact ⟨(digs x).length, 0, List.replicate (digs x).length 0, Nat.le_refl _, rfl, rfl, hn, by have := @List.length_replicate Nat (digs x).length 0; exact this, Dg.zeros _, HZ, hO, hB⟩
  case round =>
    obtain ⟨k, r, out, hk, rfl, rfl, hr, HL, HDo, HV, hOk, hBk⟩ := hrel
    cases k with
    | zero =>
      have HF : Hid (val out = x / n ∧ r = x % n) := by
        have h1 := HV.out
        rw [List.drop_zero, List.drop_zero, val_digs] at h1
        have : val out = x / n ∧ r = x % n := by
          constructor
          · rw [h1, Nat.add_comm, Nat.add_mul_div_right _ _ hn, Nat.div_eq_of_lt hr, Nat.zero_add]
          · rw [h1, Nat.add_comm, Nat.add_mul_mod_self_right, Nat.mod_eq_of_lt hr]
        exact this
      clear HV
      go_wp2_with fail
      have hs := hOk.sl (c := (digs x).length) (by rw [HL.out]; omega) (by unfold maxLen; omega)
      have hT := trim_at out HDo.out _ _ hs
      rw [HL.out] at hT
      refine Calls.mono hT ?_
      rintro e w' ⟨v, rfl, hv, rfl⟩
      clear hT hs
      go_wp2
      go_ret2
      rw [← HF.out.1, ← HF.out.2]
      exact ⟨_, rfl, hv, hBk⟩
    | succ j =>
      have hlt : j < (digs x).length := by omega
      obtain ⟨b, o, rfl, e0⟩ := sl_addr (s1.ext hBk) (wcs_get hlt)
      have hX := HX.out.get hlt
      have hko : j < out.length := by have := HL.out; omega
      have o0 := hOk.cell hko
      have o1 := hOk.frozen j
      have HV1 := Lib.hid (val_drop (digs x) j hlt)
      rw [show (((j + 1 : Nat) : Int) - 1) = (j : Int) by omega]
      generalize (digs x)[j] = X at *
      rw [B_eq] at hX
      obtain ⟨q, r', hdv, hr', hq, t1, t2, t3, t4⟩ := div_word hr hX
      have HR : Hid (val ((digs x).drop j) = val ((out.set j q).drop j) * n + r') := by
        have : val ((digs x).drop j) = val ((out.set j q).drop j) * n + r' := by
          rw [HV1.out, drop_set out j q hko]
          exact small_step HV.out hdv
        exact this
      have hor := or64 (r := r) (X := X) (by omega) hX
      clear HV HV1 hdv
      go_wp2
      go_roundw
      case rel => exact ⟨j, r', out.set j q, by omega, rfl, rfl, hr', Hid.len_set HL _ _, Hid.dg_set HDo _ hq, HR, hOk.set' hko _ (by omega), hBk.setCell (Nat.le_refl _) _⟩
      case measure => simp [intOf]
end Nm
end Go.Proofs.YtgfhbnbmpbhpfaaGreatDoor
