/- Closed facts on the program alone. -/
import Derived.Test.YtchnhjffpldpiaaDoorRw
namespace Go.Proofs.YtchnhjffpldpiaaDoor
open Go Go.ChangeShapes Go.WideShapes Go.ChangeAt Go.RowKit
namespace facts
set_option maxRecDepth 100000
theorem k1 : (laidOutB Tryd.pinned.checked.prog) = true := by kernel_rfl
theorem k2 : (mapsRowed Tryd.pinned.checked.prog) = true := by kernel_rfl
theorem k6 : ((Tryd.pinned.checked.prog.stops == [])) = true := by kernel_rfl
theorem k8 : ((Tryd.pinned.checked.prog.stopKnobs == [])) = true := by kernel_rfl
theorem k24 : (Tryd.pinned.checked.prog.stopsHeard) = true := by kernel_rfl
theorem k25 : (Tryd.pinned.checked.prog.mayEnter) = true := by kernel_rfl
end facts
end Go.Proofs.YtchnhjffpldpiaaDoor
