/- IsShort, IsMiss, CheckTest, enough of the references. Printed by gen_rdec.py. -/
import Derived.Test.YtilolnjbpokdnaaGreatDoorBq00
import Derived.Test.YtilolnjbpokdnaaGreatDoorBq03
import Derived.Test.YtilolnjbpokdnaaGreatDoorProg
import Derived.Test.YtilolnjbpokdnaaGreatDoorBq04
import Derived.Test.YtilolnjbpokdnaaGreatDoorBq05
import Derived.Test.YtilolnjbpokdnaaGreatDoorBq06
import Derived.Test.YtilolnjbpokdnaaGreatDoorBq07
import Derived.Test.YtilolnjbpokdnaaGreatDoorBq08
import Derived.Test.YtilolnjbpokdnaaGreatDoorBq09
import Derived.Test.YtilolnjbpokdnaaGreatDoorBq10
import Derived.Test.YtilolnjbpokdnaaGreatDoorBq11
import Derived.Test.YtilolnjbpokdnaaGreatDoorBq12
import Derived.Test.YtilolnjbpokdnaaGreatDoorBq13
import Derived.Test.YtilolnjbpokdnaaGreatDoorBq14
import Derived.Test.YtilolnjbpokdnaaGreatDoorBq15
import Derived.Test.YtilolnjbpokdnaaGreatDoorBq16
import Derived.Test.YtilolnjbpokdnaaGreatDoorBq17
import Derived.Test.YtilolnjbpokdnaaGreatDoorBq18
import Derived.Test.YtilolnjbpokdnaaGreatDoorShelf
import Derived.Test.YtilolnjbpokdnaaGreatDoorBq19
import Derived.Test.YtilolnjbpokdnaaGreatDoorBq20
import Derived.Test.YtilolnjbpokdnaaGreatDoorBq21
import Derived.Test.YtilolnjbpokdnaaGreatDoorBq22
import Derived.Test.YtilolnjbpokdnaaGreatDoorBq23
import Derived.Test.YtilolnjbpokdnaaGreatDoorBq24
import Derived.Test.YtilolnjbpokdnaaGreatDoorBq25
import Derived.Test.YtilolnjbpokdnaaGreatDoorBq26
import Derived.Test.YtilolnjbpokdnaaGreatDoorBq37
namespace Go.Proofs.YtilolnjbpokdnaaGreatDoor
open Go.RowKit
namespace Nt
open _root_.Go.Proofs.YtilolnjbpokdnaaGreatDoor.Nm (showN showD Fits show_size rF rQ cutS cutS_size trimPrefix_at fits_int)
theorem whole0 (w : World) (ht : Tab w) : Calls Tryz.prog 27 #[.int .i64 0] w (RtP w 0) := mWholeQ 0 (by decide) (by decide) w ht
end Nt
end Go.Proofs.YtilolnjbpokdnaaGreatDoor
