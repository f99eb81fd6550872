/- A part of the proof of DirectDifferences: see the last text of this claim. -/
import Derived.Test.YtfdpjfgkdjlomaaGreatDoorK1
namespace Go.Abs
noncomputable section
open Go Go.Proofs
theorem run4 (h : Heap) : (fns (CK spK3) 60).call 4 [] h none = some (.val (gB true) h none) := by kernel_rfl
end
end Go.Abs
