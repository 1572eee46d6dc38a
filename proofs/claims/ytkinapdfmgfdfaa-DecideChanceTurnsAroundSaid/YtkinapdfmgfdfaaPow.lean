/- power and capitals of package decide, power of package metric. -/
import Derived.Test.YtkinapdfmgfdfaaBig4
import Derived.Test.YtkinapdfmgfdfaaBig2
import Derived.Test.YtkinapdfmgfdfaaReg
import Derived.Deep.RegionHeld3
namespace Go.Proofs.Ytkinapdfmgfdfaa
open Go.RowKit
namespace Nm
theorem wlen_one {n : Nat} (h : n < B) : wlen n ≤ 1 := wlen_le (by rw [Nat.pow_one]; exact h)
theorem wlen_pow {n : Nat} (h : n < B) : ∀ k, wlen (n ^ k) ≤ k + 1
  | 0 => by rw [Nat.pow_zero]; exact wlen_one (by decide)
  | k + 1 => by
    rw [Nat.pow_succ]
    have h1 := wlen_mul (n ^ k) n
    have h2 := wlen_pow h k
    have h3 := wlen_one h
    omega
set_option maxHeartbeats 1000000 in
theorem power_at (n to : Nat) (hn : n < 4294967296) (ht : to ≤ 1000000) (w : World) : Calls Try.prog 38 #[.int .i64 (n : Int), .int .i64 (to : Int)] w (NPost w (n ^ to)) := by
  have hx1 := xnatOf_at 1 (by decide) w
  rw [show ((1 : Nat) : Int) = 1 from rfl] at hx1
  have HX1 := Lib.hid hx1
  clear hx1
  go_enter Try.func38, Try.ntmps38
  go_wp2_with fail
  refine HX1.out.mono ?_
  rintro e w1 ⟨v, rfl, hv, hb1⟩
  go_wp2
  go_loopw [5, 8] (fun o i wr => ∃ k : Nat, k ≤ to ∧ i = .int .i64 k ∧ N wr o (n ^ k) ∧ Below w.heap.size w wr) (fun _ i _ => to - (intOf i).toNat)
  case atStart => exact ⟨0, by omega, rfl, by rw [Nat.pow_zero]; exact hv, hb1⟩
  case round =>
    obtain ⟨k, hk, rfl, ho, hb⟩ := hrel
    clear hv hb1
    by_cases hlt : k < to
    · go_wp2_with fail
      refine (xnatOf_at n (by omega) _).mono ?_
      rintro e w2 ⟨v2, rfl, h2, hb2⟩
      have h1 := wlen_pow (show n < B from hn) k
      have h3 := wlen_one (show n < B from hn)
      go_wp2_with fail
      refine (times_at (n ^ k) n _ _ _ (ho.ext hb2) h2 (by omega) (by omega)).mono ?_
      rintro e w3 ⟨v3, rfl, h4, hb3⟩
      have hb4 := ext_trans (ext_trans hb hb2) hb3
      clear ho h2 hb2 hb3 hb
      go_wp2
      go_roundw
      case rel => exact ⟨k + 1, by omega, by go_num, by rw [Nat.pow_succ]; exact h4, hb4⟩
      case measure => simp [intOf]; omega
    · have hkt : k = to := by omega
      subst hkt
      go_wp2
      go_ret
      exact ⟨_, rfl, ho, hb⟩
end Nm
end Go.Proofs.Ytkinapdfmgfdfaa
