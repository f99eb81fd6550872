/- A part of the proof of DirectDifferences: see the last text of this claim. -/
import Derived.Test.YtfdpjfgkdjlomaaGreatDoorK1
namespace Go.Abs
noncomputable section
open Go Go.Proofs
theorem run15 (h : Heap) : (fns (CK spK2) 60).call 15 [xK, .nils] h none = some (.val (.tup [.int .i64 1, zK]) h none) := by kernel_rfl
end
end Go.Abs
