/- A part of the proof of LogLines: see the last text of this claim. -/
import Derived.Test.YtlehhkleemaloaaGreatDoorQ1
namespace Go.Abs
noncomputable section
open Go Go.Proofs Go.Proofs.YtlehhkleemaloaaGreatDoor
theorem j9 : (Rows.logLinesRow.inPlace == Tryz.checked.prog.inPlace 5) = true := by
  have h : Tryz.checked.prog.inPlace 5 = cl5.filterMap fun g => (Tryz.prog.funcs[g]?).bind fun fn => if fn.ours || fn.body.isNone || fn.name == "runtime.NumGoroutine" then some fn.name else none := by
    show Tryz.prog.inPlace 5 = _
    unfold Program.inPlace
    rw [cl5_ok]
  exact (congrArg (Rows.logLinesRow.inPlace == ·) h).trans (by kernel_rfl)
theorem unf : Tryz.prog.unfollowed 5 = true := by
  have h : Tryz.prog.unfollowed 5 = cl5.any fun g => (Tryz.prog.funcs[g]?).any fun fn => match fn.body with | some c => c.unfollowed | none => entryCalls fn := by
    unfold Program.unfollowed
    rw [cl5_ok]; rfl
  exact h.trans (by kernel_rfl)
theorem j10 : (Rows.logLinesRow.unfollowed == Tryz.checked.prog.unfollowed 5) = true := by
  show (Rows.logLinesRow.unfollowed == Tryz.prog.unfollowed 5) = true
  rw [unf]; rfl
theorem j11 : (Rows.logLinesRow.recurses == Tryz.checked.prog.recurses 5) = true := by
  show (Rows.logLinesRow.recurses == Tryz.prog.recurses 5) = true
  unfold Program.recurses
  rw [unf]; rfl
theorem j12 : (Rows.logLinesRow.named == Tryz.checked.prog.varsNamed 5) = true := by
  show (Rows.logLinesRow.named == Tryz.prog.varsNamed 5) = true
  have h : Tryz.prog.varsNamed 5 = ((((cl5).flatMap fun g => ((Tryz.prog.funcs[g]?).bind (·.body)).elim [] Code.globalsNamed).eraseDups).filterMap (fun g => (Tryz.prog.globals[g]?).map (·.name)) ++ (cl5).filterMap fun g => (Tryz.prog.funcs[g]?).bind fun fn => if fn.body.isNone then entryReads.lookup fn.name else none).eraseDups := by
    unfold Program.varsNamed
    rw [cl5_ok]
  exact (congrArg (Rows.logLinesRow.named == ·) h).trans (by kernel_rfl)
end
end Go.Abs
