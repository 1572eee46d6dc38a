/- Sum of package metric. Printed by gen_mom.py. -/
import Derived.Test.YtilolnjbpokdnaaGreatDoorBq51
import Derived.Test.YtilolnjbpokdnaaGreatDoorBq49
namespace Go.Proofs.YtilolnjbpokdnaaGreatDoor
open Go.RowKit
namespace Nm
open _root_.Go.Proofs.YtilolnjbpokdnaaGreatDoor.Nt (RH RH.cell RH.box RH.row RH.lt RH.new RH.ext RH.fre RH.set RH.other RH.row_other store_cells)
theorem M5Ln.qs {m : M5} (h : M5Ln m) : QS (m5q m) := ⟨h.x.sm (by omega) (by omega), h.y.sm (by omega) (by omega), h.xx.sm (by omega) (by omega), h.yy.sm (by omega) (by omega), h.xy.sm (by omega) (by omega)⟩
end Nm
end Go.Proofs.YtilolnjbpokdnaaGreatDoor
