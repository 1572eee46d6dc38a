/- side of the reference: the capitals of bets on up. Printed by gen_side.py. -/
import Derived.Test.YtilolnjbpokdnaaGreatDoorBq37
import Derived.Test.YtilolnjbpokdnaaGreatDoorBq29
import Derived.Test.YtilolnjbpokdnaaGreatDoorProg
import Derived.Test.YtilolnjbpokdnaaGreatDoorBq00
import Derived.Test.YtilolnjbpokdnaaGreatDoorBq01
import Derived.Test.YtilolnjbpokdnaaGreatDoorBq03
import Derived.Test.YtilolnjbpokdnaaGreatDoorBq04
import Derived.Test.YtilolnjbpokdnaaGreatDoorBq05
import Derived.Test.YtilolnjbpokdnaaGreatDoorBq26
import Derived.Test.YtilolnjbpokdnaaGreatDoorBq19
import Derived.Test.YtilolnjbpokdnaaGreatDoorBq28
namespace Go.Proofs.YtilolnjbpokdnaaGreatDoor
open Go.RowKit
namespace Nm
end Nm
namespace Nt
open _root_.Go.Proofs.YtilolnjbpokdnaaGreatDoor.Nm (showN showD Fits fits_int Ln AnsPost quoN quoD quoF)
theorem minus_is (p q r : Rat) (h : p - q = r) (hp : Fits p) (hq : Fits q) (hs : Fits r) (w : World) (ht : Tab w) : Calls Tryz.prog 26 #[rtV p, rtV q] w (RtP w r) := by subst h; exact mMinusQ p q hp hq hs w ht
theorem over_is (p q r : Rat) (h : p / q = r) (hp : Fits p) (hq : Fits q) (h0 : q ≠ 0) (hs : Fits r) (w : World) (ht : Tab w) : Calls Tryz.prog 47 #[rtV p, rtV q] w (RtP w r) := by subst h; exact mOverQ p q hp hq h0 hs w ht
theorem whole_is (z : Int) (n : Nat) (hz : z = (n : Int)) (hn : n ≤ 9223372036854775807) (w : World) (ht : Tab w) : Calls Tryz.prog 27 #[.int .i64 z] w (RtP w ((n : Nat) : Rat)) := by
 subst hz
 have h := mWholeQ (n : Int) (by omega) (by omega) w ht
 rw [Rat.intCast_natCast] at h
 exact h
end Nt
end Go.Proofs.YtilolnjbpokdnaaGreatDoor
