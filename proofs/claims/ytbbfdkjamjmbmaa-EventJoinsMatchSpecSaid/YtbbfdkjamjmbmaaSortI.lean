/- The seat's program holds what the stable sort asks for. -/
import Derived.Test.YtbbfdkjamjmbmaaSortH
namespace Go.Proofs.Ytbbfdkjamjmbmaa
namespace St
open Go.Shelf Go.RowKit Go.Lib Go.Sort
theorem lay : Lay Try.prog 8 := by
  constructor <;> first | kernel_rfl | (intro w; kernel_rfl) | (intro w; rfl)
theorem enters84 : ∀ args w, (callFunc 84 args).run Try.prog w = .ok (.enter 84 args) w := fun args w => by rfl
end St
end Go.Proofs.Ytbbfdkjamjmbmaa
