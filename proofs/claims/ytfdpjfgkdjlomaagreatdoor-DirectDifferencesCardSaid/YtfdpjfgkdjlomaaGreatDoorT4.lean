/- A part of the proof of DirectDifferences: see the last text of this claim. -/
import Derived.LaidByTextLater
import Derived.SevenTiedAt
import Derived.LaidSub
import Derived.LaidOnce
import Derived.Test.YtfdpjfgkdjlomaaGreatDoorT3
namespace Go.Abs
noncomputable section
open Go Go.Proofs Go.Proofs.YtfdpjfgkdjlomaaGreatDoor
set_option maxRecDepth 100000
theorem tPin : Tryz.pinned.checked.prog.pinnedFits "unicode/utf8.first" = true := by kernel_rfl
theorem tNoUnsafe : Tryz.pinned.checked.prog.headLifts.contains "ownunsafe" = false := by kernel_rfl
theorem tFits : Tryz.pinned.checked.prog.listedFits Rows.directDifferencesRow.laid = true := by
  unfold Program.listedFits
  rw [tNoUnsafe]
  kernel_rfl
theorem directDifferences_row_tie : Rows.directDifferencesRow.laidByTextAt .later Tryz.pinned [.data, .data, .data, .pinned, .data, .sentinel, .sentinel] true :=
  OpenClaim.laidByTextAt_pinned rfl rfl seatTie rfl rfl rfl rfl (fun y hy _e => by
    simp only [Rows.directDifferencesRow, List.zip_cons_cons, List.zip_nil_right, List.mem_cons, List.mem_nil_iff, or_false] at hy
    rcases hy with rfl | rfl | rfl | rfl | rfl | rfl | rfl
    · cases _e
    · cases _e
    · cases _e
    · exact ⟨tPin, by kernel_rfl⟩
    · cases _e
    · cases _e
    · cases _e) tFits
end
end Go.Abs
