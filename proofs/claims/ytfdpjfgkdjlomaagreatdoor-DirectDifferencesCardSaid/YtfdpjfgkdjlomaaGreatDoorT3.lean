/- A part of the proof of DirectDifferences: see the last text of this claim. -/
import Derived.LaidByTextLater
import Derived.SevenTiedAt
import Derived.LaidSub
import Derived.LaidOnce
import Derived.Test.YtfdpjfgkdjlomaaGreatDoorT2
namespace Go.Abs
noncomputable section
open Go Go.Proofs Go.Proofs.YtfdpjfgkdjlomaaGreatDoor
set_option maxRecDepth 100000
theorem tRun : ∀ os tape, doorLeaves Tryz.prog 120 8 65 lvs os tape = some (lvs.filter fun x => x.2.handleName?.isNone, (funcsListed lvs).map (·.2.funcsOut)) := fun _ _ => by kernel_rfl
theorem seatTie : Tryz.prog.laidByTextLater lvs [.data, .data, .data, .data, .sentinel, .sentinel] true :=
  Program.laidByTextLater_by_one 120 8 65 tW tW2 tRoot tK tG tN tRun
end
end Go.Abs
