/- common of package value: the greatest common divisor. -/
import Derived.Test.YtkinapdfmgfdfaaOver
import Derived.Deep.LoopGhost
namespace Go.Proofs.Ytkinapdfmgfdfaa
open Go.RowKit
namespace Nm
set_option maxHeartbeats 4000000 in
theorem common_at (x y : Nat) (v u : Value) (w : World) (hx : N w v x) (hy : N w u y) (hxl : wlen x ≤ 1000000000) (hyl : wlen y ≤ 1000000000) : Calls Try.prog 51 #[v, u] w (NPost w (Nat.gcd x y)) := by
  obtain ⟨a, c, rfl, s1⟩ := hx.open_
  obtain ⟨a', c', rfl, s2⟩ := hy.open_
  have HX := Lib.hid hx
  have HY := Lib.hid hy
  clear hx hy s1 s2
  go_enter Try.func51, Try.ntmps51
  go_wp2
  go_loopg [0, 1] y (fun k s0 s1 wr => ∃ p : Nat, N wr s0 p ∧ N wr s1 k ∧ wlen p ≤ 1000000000 ∧ wlen k ≤ 1000000000 ∧ Nat.gcd p k = Nat.gcd x y ∧ Below w.heap.size w wr)
  case atStart => exact ⟨x, HX.out, HY.out, hxl, hyl, rfl, Below.refl _ _⟩
  case round =>
    obtain ⟨p, hp, hk, hpl, hkl, hg, hb⟩ := hrel
    have HP := Lib.hid hp
    have HK := Lib.hid hk
    have HG := Lib.hid hg
    obtain ⟨a, c, rfl, s1⟩ := hp.open_
    obtain ⟨a', c', rfl, s2⟩ := hk.open_
    clear hp hk hg s1 s2
    by_cases h0 : 0 < gk
    · have hl : 0 < (digs gk).length := by have := @wlen_eq_zero gk; unfold wlen at this; omega
      go_wp2_with fail
      refine (over_at p gk _ _ wr HP.out HK.out hpl h0).mono ?_
      rintro e w1 ⟨v1, v2, rfl, hq, hr, hb1⟩
      go_wp2
      go_roundg (p % gk)
      case measure => exact Nat.mod_lt _ h0
      case rel => exact ⟨gk, HK.out.ext hb1, hr, hkl, Nat.le_trans (wlen_mono (Nat.le_of_lt (Nat.mod_lt _ h0))) hkl, by rw [Nat.gcd_comm, ← Nat.gcd_rec, Nat.gcd_comm]; exact HG.out, ext_trans hb hb1⟩
    · obtain rfl : gk = 0 := by omega
      have hl : (digs 0).length = 0 := wlen_zero
      rw [hl]
      clear hl
      go_wp2
      go_ret
      exact ⟨_, rfl, by have := HG.out; rw [Nat.gcd_zero_right] at this; rw [← this]; exact HP.out, hb⟩
end Nm
end Go.Proofs.Ytkinapdfmgfdfaa
