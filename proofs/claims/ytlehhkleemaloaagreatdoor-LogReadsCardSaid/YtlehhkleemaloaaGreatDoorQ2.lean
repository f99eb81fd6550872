/- A part of the proofs of the laws of logs: see the last text of this claim. -/
import Derived.Test.YtlehhkleemaloaaGreatDoorQ1
namespace Go.Abs
noncomputable section
open Go Go.Proofs Go.Proofs.YtlehhkleemaloaaGreatDoor
theorem j9 : (Rows.logReadsRow.inPlace == Tryz.checked.prog.inPlace 7) = true := by
  have h : Tryz.checked.prog.inPlace 7 = cl7.filterMap fun g => (Tryz.prog.funcs[g]?).bind fun fn => if fn.ours || fn.body.isNone || fn.name == "runtime.NumGoroutine" then some fn.name else none := by
    show Tryz.prog.inPlace 7 = _
    unfold Program.inPlace
    rw [cl7_ok]
  exact (congrArg (Rows.logReadsRow.inPlace == ·) h).trans (by kernel_rfl)
theorem unf : Tryz.prog.unfollowed 7 = true := by
  have h : Tryz.prog.unfollowed 7 = cl7.any fun g => (Tryz.prog.funcs[g]?).any fun fn => match fn.body with | some c => c.unfollowed | none => entryCalls fn := by
    unfold Program.unfollowed
    rw [cl7_ok]; rfl
  exact h.trans (by kernel_rfl)
theorem j10 : (Rows.logReadsRow.unfollowed == Tryz.checked.prog.unfollowed 7) = true := by
  show (Rows.logReadsRow.unfollowed == Tryz.prog.unfollowed 7) = true
  rw [unf]; rfl
theorem j11 : (Rows.logReadsRow.recurses == Tryz.checked.prog.recurses 7) = true := by
  show (Rows.logReadsRow.recurses == Tryz.prog.recurses 7) = true
  unfold Program.recurses
  rw [unf]; rfl
theorem j12 : (Rows.logReadsRow.named == Tryz.checked.prog.varsNamed 7) = true := by
  show (Rows.logReadsRow.named == Tryz.prog.varsNamed 7) = true
  have h : Tryz.prog.varsNamed 7 = ((((cl7).flatMap fun g => ((Tryz.prog.funcs[g]?).bind (·.body)).elim [] Code.globalsNamed).eraseDups).filterMap (fun g => (Tryz.prog.globals[g]?).map (·.name)) ++ (cl7).filterMap fun g => (Tryz.prog.funcs[g]?).bind fun fn => if fn.body.isNone then entryReads.lookup fn.name else none).eraseDups := by
    unfold Program.varsNamed
    rw [cl7_ok]
  exact (congrArg (Rows.logReadsRow.named == ·) h).trans (by kernel_rfl)
end
end Go.Abs
