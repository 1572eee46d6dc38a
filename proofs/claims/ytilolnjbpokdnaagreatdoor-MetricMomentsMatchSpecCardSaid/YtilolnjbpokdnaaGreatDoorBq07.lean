/- bits.Len32, bits.LeadingZeros32. -/
import Derived.Test.YtilolnjbpokdnaaGreatDoorProg
import Derived.Test.YtilolnjbpokdnaaGreatDoorBq00
import Derived.Lib.Tables
namespace Go.Proofs.YtilolnjbpokdnaaGreatDoor
open Go.RowKit
namespace Nm
set_option maxRecDepth 100000 in
theorem len8_all : ∀ j : Fin 256, 0 < j.val → ∃ n : Fin 9, Lib.len8 ((j.val : Nat) : Int) = ((n.val : Nat) : Int) ∧ 1 ≤ n.val ∧ 2 ^ (n.val - 1) ≤ j.val ∧ j.val < 2 ^ n.val := by decide +kernel
theorem len8_nat (j : Nat) (h : j < 256) (h0 : 0 < j) : ∃ n : Nat, Lib.len8 (j : Int) = (n : Int) ∧ 1 ≤ n ∧ n ≤ 8 ∧ 2 ^ (n - 1) ≤ j ∧ j < 2 ^ n := by
  obtain ⟨n, h1, h2, h3, h4⟩ := len8_all ⟨j, h⟩ h0
  exact ⟨n.val, h1, h2, by omega, h3, h4⟩
def LenPost (x : Nat) (w : World) (e : Ending) (w' : World) : Prop := (∃ n : Nat, e = .returned (.int .i64 (n : Int)) ∧ 1 ≤ n ∧ n ≤ 32 ∧ 2 ^ (n - 1) ≤ x ∧ x < 2 ^ n) ∧ w = w'
theorem len_up {x k s n : Nat} (hk : 2 ^ s = k) (h1 : 2 ^ (n - 1) ≤ x / k) (h2 : x / k < 2 ^ n) (hn : 1 ≤ n) : 2 ^ (s + n - 1) ≤ x ∧ x < 2 ^ (s + n) := by
  subst hk
  have hp := Nat.two_pow_pos s
  constructor
  · rw [show s + n - 1 = (n - 1) + s by omega, Nat.pow_add]; exact (Nat.le_div_iff_mul_le hp).1 h1
  · rw [Nat.add_comm s n, Nat.pow_add]; exact (Nat.div_lt_iff_lt_mul hp).1 h2
set_option maxRecDepth 1000000 in
set_option maxHeartbeats 2000000 in
theorem len32_at (x : Nat) (hx : x < 4294967296) (h0 : 0 < x) (w : World) : Calls Tryz.prog 208 #[.int .u32 (x : Int)] w (LenPost x w) := by
  have hi := fun (y : Int) (h1 : 0 ≤ y) (h2 : y ≤ 255) => Lib.run_index_len8tab (P := Tryz.prog) w 9 .u8 y Tryz.underlying9 h1 h2
  by_cases h1 : 65536 ≤ x
  · by_cases h2 : 16777216 ≤ x
    · obtain ⟨n, hn, n1, n2, n3, n4⟩ := len8_nat (x / 65536 / 256) (by omega) (by omega)
      have a1 := hi ((x : Int) / 65536 / 256) (by omega) (by omega)
      have HE : Hid (x / 65536 / 256 = x / 16777216) := by
        have : x / 65536 / 256 = x / 16777216 := by omega
        exact this
      have HN := Lib.hid (len_up (x := x) (k := 16777216) (s := 24) (n := n) (by decide) (by have := HE.out; rw [← this]; exact n3) (by have := HE.out; rw [← this]; exact n4) n1)
      rw [show ((x : Int) / 65536 / 256) = ((x / 65536 / 256 : Nat) : Int) by omega, hn] at a1
      rw [show (((x / 65536 / 256 : Nat) : Int)) = (x : Int) / 65536 / 256 by omega] at a1
      clear hi hn n3 n4
      go_enter Tryz.func208, Tryz.ntmps208
      go_wp2
      go_ret
      exact ⟨⟨24 + n, by simp, by omega, by omega, HN.out.1, HN.out.2⟩, rfl⟩
    · obtain ⟨n, hn, n1, n2, n3, n4⟩ := len8_nat (x / 65536) (by omega) (by omega)
      have a1 := hi ((x : Int) / 65536) (by omega) (by omega)
      have HE : Hid (x / 65536 = x / 65536) := by
        have : x / 65536 = x / 65536 := by omega
        exact this
      have HN := Lib.hid (len_up (x := x) (k := 65536) (s := 16) (n := n) (by decide) (by have := HE.out; rw [← this]; exact n3) (by have := HE.out; rw [← this]; exact n4) n1)
      rw [show ((x : Int) / 65536) = ((x / 65536 : Nat) : Int) by omega, hn] at a1
      rw [show (((x / 65536 : Nat) : Int)) = (x : Int) / 65536 by omega] at a1
      clear hi hn n3 n4
      go_enter Tryz.func208, Tryz.ntmps208
      go_wp2
      go_ret
      exact ⟨⟨16 + n, by simp, by omega, by omega, HN.out.1, HN.out.2⟩, rfl⟩
  · by_cases h2 : 256 ≤ x
    · obtain ⟨n, hn, n1, n2, n3, n4⟩ := len8_nat (x / 256) (by omega) (by omega)
      have a1 := hi ((x : Int) / 256) (by omega) (by omega)
      have HE : Hid (x / 256 = x / 256) := by
        have : x / 256 = x / 256 := by omega
        exact this
      have HN := Lib.hid (len_up (x := x) (k := 256) (s := 8) (n := n) (by decide) (by have := HE.out; rw [← this]; exact n3) (by have := HE.out; rw [← this]; exact n4) n1)
      rw [show ((x : Int) / 256) = ((x / 256 : Nat) : Int) by omega, hn] at a1
      rw [show (((x / 256 : Nat) : Int)) = (x : Int) / 256 by omega] at a1
      clear hi hn n3 n4
      go_enter Tryz.func208, Tryz.ntmps208
      go_wp2
      go_ret
      exact ⟨⟨8 + n, by simp, by omega, by omega, HN.out.1, HN.out.2⟩, rfl⟩
    · obtain ⟨n, hn, n1, n2, n3, n4⟩ := len8_nat (x / 1) (by omega) (by omega)
      have a1 := hi ((x : Int)) (by omega) (by omega)
      have HE : Hid (x / 1 = x / 1) := by
        have : x / 1 = x / 1 := by omega
        exact this
      have HN := Lib.hid (len_up (x := x) (k := 1) (s := 0) (n := n) (by decide) (by have := HE.out; rw [← this]; exact n3) (by have := HE.out; rw [← this]; exact n4) n1)
      rw [show ((x : Int)) = ((x / 1 : Nat) : Int) by omega, hn] at a1
      rw [show (((x / 1 : Nat) : Int)) = (x : Int) by omega] at a1
      clear hi hn n3 n4
      go_enter Tryz.func208, Tryz.ntmps208
      go_wp2
      go_ret
      exact ⟨⟨0 + n, by simp, by omega, by omega, HN.out.1, HN.out.2⟩, rfl⟩
theorem zeros32_at (x : Nat) (hx : x < 4294967296) (h0 : 0 < x) (w : World) : Calls Tryz.prog 182 #[.int .u32 (x : Int)] w fun e w' => (∃ n : Nat, e = .returned (.int .i64 (n : Int)) ∧ n < 32 ∧ 2147483648 ≤ x * 2 ^ n ∧ x * 2 ^ n < 4294967296) ∧ w = w' := by
  go_enter Tryz.func182, Tryz.ntmps182
  go_wp2_with fail
  refine (len32_at x hx h0 w).mono ?_
  rintro e w' ⟨⟨n, rfl, n1, n2, n3, n4⟩, rfl⟩
  have HA : Hid (2147483648 ≤ x * 2 ^ (32 - n) ∧ x * 2 ^ (32 - n) < 4294967296) := by
    have : 2147483648 ≤ x * 2 ^ (32 - n) ∧ x * 2 ^ (32 - n) < 4294967296 := by
      have hp := Nat.two_pow_pos (32 - n)
      have h1 := Nat.mul_le_mul_right (2 ^ (32 - n)) n3
      have h2 := Nat.mul_lt_mul_of_pos_right n4 hp
      rw [← Nat.pow_add, show n - 1 + (32 - n) = 31 by omega] at h1
      rw [← Nat.pow_add, show n + (32 - n) = 32 by omega] at h2
      exact ⟨h1, h2⟩
    exact this
  clear n3 n4
  go_wp2
  go_ret
  exact ⟨⟨32 - n, ret_int (by omega), by omega, HA.out.1, HA.out.2⟩, rfl⟩
end Nm
end Go.Proofs.YtilolnjbpokdnaaGreatDoor
