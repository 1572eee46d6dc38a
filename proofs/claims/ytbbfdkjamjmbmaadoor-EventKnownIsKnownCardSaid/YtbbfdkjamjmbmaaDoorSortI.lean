/- The seat's program holds what the stable sort asks for. -/
import Derived.Test.YtbbfdkjamjmbmaaDoorSortH
namespace Go.Proofs.YtbbfdkjamjmbmaaDoor
namespace St
open Go.Shelf Go.RowKit Go.Lib Go.Sort
theorem lay : Lay Tryd.prog 8 := by
  constructor <;> first | kernel_rfl | (intro w; kernel_rfl) | (intro w; rfl)
theorem enters84 : ∀ args w, (callFunc 41 args).run Tryd.prog w = .ok (.enter 41 args) w := fun args w => by rfl
end St
end Go.Proofs.YtbbfdkjamjmbmaaDoor
