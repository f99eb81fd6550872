/- A part of the proof of DirectDifferences: see the last text of this claim. -/
import Derived.Test.YtfdpjfgkdjlomaaGreatDoorQ1
namespace Go.Abs
noncomputable section
open Go Go.Proofs Go.Proofs.YtfdpjfgkdjlomaaGreatDoor
theorem j9 : (Rows.directDifferencesRow.inPlace == Tryz.checked.prog.inPlace 3) = true := by
  have h : Tryz.checked.prog.inPlace 3 = cl3.filterMap fun g => (Tryz.prog.funcs[g]?).bind fun fn => if fn.ours || fn.body.isNone || fn.name == "runtime.NumGoroutine" then some fn.name else none := by
    show Tryz.prog.inPlace 3 = _
    unfold Program.inPlace
    rw [cl3_ok]
  exact (congrArg (Rows.directDifferencesRow.inPlace == ·) h).trans (by kernel_rfl)
theorem unf : Tryz.prog.unfollowed 3 = true := by
  have h : Tryz.prog.unfollowed 3 = cl3.any fun g => (Tryz.prog.funcs[g]?).any fun fn => match fn.body with | some c => c.unfollowed | none => entryCalls fn := by
    unfold Program.unfollowed
    rw [cl3_ok]; rfl
  exact h.trans (by kernel_rfl)
theorem j10 : (Rows.directDifferencesRow.unfollowed == Tryz.checked.prog.unfollowed 3) = true := by
  show (Rows.directDifferencesRow.unfollowed == Tryz.prog.unfollowed 3) = true
  rw [unf]; rfl
theorem j11 : (Rows.directDifferencesRow.recurses == Tryz.checked.prog.recurses 3) = true := by
  show (Rows.directDifferencesRow.recurses == Tryz.prog.recurses 3) = true
  unfold Program.recurses
  rw [unf]; rfl
theorem j12 : (Rows.directDifferencesRow.named == Tryz.checked.prog.varsNamed 3) = true := by
  show (Rows.directDifferencesRow.named == Tryz.prog.varsNamed 3) = true
  have h : Tryz.prog.varsNamed 3 = ((((cl3).flatMap fun g => ((Tryz.prog.funcs[g]?).bind (·.body)).elim [] Code.globalsNamed).eraseDups).filterMap (fun g => (Tryz.prog.globals[g]?).map (·.name)) ++ (cl3).filterMap fun g => (Tryz.prog.funcs[g]?).bind fun fn => if fn.body.isNone then entryReads.lookup fn.name else none).eraseDups := by
    unfold Program.varsNamed
    rw [cl3_ok]
  exact (congrArg (Rows.directDifferencesRow.named == ·) h).trans (by kernel_rfl)
end
end Go.Abs
