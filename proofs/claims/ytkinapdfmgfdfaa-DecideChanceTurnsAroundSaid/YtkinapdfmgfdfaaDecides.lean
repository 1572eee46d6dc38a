/- decides of package decide, and the closure that decided hands to walk. -/
import Derived.Test.YtkinapdfmgfdfaaEvid
import Derived.Test.YtkinapdfmgfdfaaMiss2
namespace Go.Proofs.Ytkinapdfmgfdfaa
open Go.RowKit
namespace Nm
theorem evidence_at (d : Int) (h1 : 1 ≤ d) (h3 : d ≤ 3) (bets up down : Nat) (hb1 : 1 ≤ bets) (hb5 : bets ≤ 5) (hud : up + down ≤ 60) (b : Bool) (a1 : Option Addr) (n1 c1 : Nat) (a2 : Option Addr) (n2 c2 : Nat) (w : World) :
    Calls Try.prog 24 #[.agg (betA d bets b a1 n1 c1 a2 n2 c2), .int .i64 (up : Int), .int .i64 (down : Int)] w (XPost w (evQ d bets up down)) := by
  obtain rfl | rfl | rfl : d = 1 ∨ d = 2 ∨ d = 3 := by omega
  · exact evidence_1 bets up down hb1 hb5 hud b a1 n1 c1 a2 n2 c2 w
  · exact evidence_2 bets up down hb1 hb5 hud b a1 n1 c1 a2 n2 c2 w
  · exact evidence_3 bets up down hb1 hb5 hud b a1 n1 c1 a2 n2 c2 w
theorem ev_small (d : Int) (bets up down : Nat) (hb1 : 1 ≤ bets) (hb5 : bets ≤ 5) (h1 : 1 ≤ d) (h3 : d ≤ 3) (hud : up + down ≤ 60) : wlen (evQ d bets up down).num.natAbs ≤ 200 ∧ wlen (evQ d bets up down).den ≤ 200 := by
  obtain ⟨hne, he⟩ := evQ_norm d bets up down hb1 h1 h3
  have hp := evParts_pos d h1 h3
  have e1 := wlen_pow (show bets + 1 < B from by unfold B; omega) (up + down)
  have hm : bets * evParts d ≤ 5 * 2 := Nat.mul_le_mul hb5 hp.2
  have e2 := wlen_one (show bets * evParts d < B from by unfold B; omega)
  have e3 := wlen_mul ((bets + 1) ^ (up + down)) (bets * evParts d)
  have c1 := capS_wlen bets up down hb5 (by omega) (by omega) bets (Nat.le_refl _)
  have c2 := capS_wlen bets down up hb5 (by omega) (by omega) bets (Nat.le_refl _)
  have c3 := wlen_add (capN bets up down) (capN bets down up)
  have c4 : evSum d bets up down ≤ capN bets up down + capN bets down up := by unfold evSum; (repeat' split) <;> omega
  have c5 := wlen_mono c4
  rw [he]
  constructor
  · rw [norm_abs]
    refine Nat.le_trans (wlen_mono (Nat.div_le_self _ _)) ?_
    unfold capN at *
    omega
  · rw [norm_den]
    refine Nat.le_trans (wlen_mono (Nat.div_le_self _ _)) ?_
    omega
def decB (d : Int) (bets : Nat) (q : Rat) (up down : Nat) : Bool := decide (0 ≤ cmpQ (evQ d bets up down) q)
/-- a bettor that lies in memory -/
structure Bett (w : World) (d : Int) (bets : Nat) (q : Rat) (b : Bool) (a1 : Option Addr) (n1 c1 : Nat) (a2 : Option Addr) (n2 c2 : Nat) : Prop where
  d1 : 1 ≤ d
  d3 : d ≤ 3
  b1 : 1 ≤ bets
  b5 : bets ≤ 5
  need : XR w (.agg #[.bool b, .slice a1 n1 c1, .slice a2 n2 c2]) q
  s1 : wlen q.num.natAbs ≤ 4000
  s2 : wlen q.den ≤ 4000
theorem Bett.ext {w w' : World} {d : Int} {bets : Nat} {q : Rat} {b : Bool} {a1 : Option Addr} {n1 c1 : Nat} {a2 : Option Addr} {n2 c2 : Nat} (h : Bett w d bets q b a1 n1 c1 a2 n2 c2) (hb : Below w.heap.size w w') : Bett w' d bets q b a1 n1 c1 a2 n2 c2 :=
  ⟨h.d1, h.d3, h.b1, h.b5, h.need.ext hb, h.s1, h.s2⟩
theorem cmpQ_ge_of (x y : Rat) (b : Bool) (h : decide (0 ≤ cmpQ x y) = b) : ∃ z : Int, cmpQ x y = z ∧ decide (0 ≤ z) = b := ⟨_, rfl, h⟩
set_option maxHeartbeats 4000000 in
theorem decides_at (d : Int) (bets up down : Nat) (q : Rat) (hud : up + down ≤ 60) (b : Bool) (a1 : Option Addr) (n1 c1 : Nat) (a2 : Option Addr) (n2 c2 : Nat) (w : World) (hB : Bett w d bets q b a1 n1 c1 a2 n2 c2) :
    Calls Try.prog 29 #[.agg (betA d bets b a1 n1 c1 a2 n2 c2), .int .i64 (up : Int), .int .i64 (down : Int)] w (BPost w (decB d bets q up down)) := by
  have HBT := Lib.hid hB
  have HS := Lib.hid (ev_small d bets up down hB.b1 hB.b5 hB.d1 hB.d3 hud)
  obtain ⟨z, HZ⟩ : ∃ z, Hid (cmpQ (evQ d bets up down) q = z) := ⟨_, rfl⟩
  have HDB : Hid (decB d bets q up down = decide (0 ≤ z)) := by
    have : decB d bets q up down = decide (0 ≤ z) := by unfold decB; rw [HZ.out]
    exact this
  clear hB
  go_enter Try.func29, Try.ntmps29
  go_upto_region 1 with (fail)
  refine wp_box1 fun W hsz hbW hA => ?_
  clear hsz
  go_region_held3 (S2R W W.heap.size w.heap.size (betA d bets b a1 n1 c1 a2 n2 c2) w.heap.size (betA d bets b a1 n1 c1 a2 n2 c2)) (first | exact S2R.start hA hA | exact S2R.ext (by with_reducible assumption) (by with_reducible assumption) (Nat.le_refl _) hA hA | assumption) (first | (go_at_call 24; refine (evidence_at d HBT.out.d1 HBT.out.d3 bets up down HBT.out.b1 HBT.out.b5 hud b a1 n1 c1 a2 n2 c2 _).mono ?_; rintro e w2 ⟨vq, rfl, hq, hb2⟩; obtain ⟨p1, c5, p2, c6, rfl, _, _⟩ := hq.open_; have hc2 := Lib.hid (ext_trans (Below.refl W.heap.size W).drew hb2); have HQ := Lib.hid hq; clear hq) | (go_at_call 43; refine (xcmp_is _ q z HZ.out _ _ _ HQ.out (HBT.out.need.ext (ext_trans hbW hc2.out)) (by have := HS.out; omega) (by have := HS.out; omega) (by have := HBT.out.s1; omega) (by have := HBT.out.s2; omega)).mono ?_; rintro e w3 ⟨rfl, hb3⟩; have hc3 := Lib.hid (ext_trans hc2.out hb3)))
  go_wp2
  go_ret
  exact ⟨congrArg (fun b => Ending.returned (.bool b)) HDB.out.symm, ext_trans hbW hc3.out⟩
end Nm
end Go.Proofs.Ytkinapdfmgfdfaa
