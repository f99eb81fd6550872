/- A part of the proofs of the laws of logs: see the last text of this claim. -/
import Derived.Test.YtlehhkleemaloaaGreatDoorQ1
namespace Go.Abs
noncomputable section
open Go Go.Proofs Go.Proofs.YtlehhkleemaloaaGreatDoor
theorem j9 : (Rows.logBackRow.inPlace == Tryz.checked.prog.inPlace 6) = true := by
  have h : Tryz.checked.prog.inPlace 6 = cl6.filterMap fun g => (Tryz.prog.funcs[g]?).bind fun fn => if fn.ours || fn.body.isNone || fn.name == "runtime.NumGoroutine" then some fn.name else none := by
    show Tryz.prog.inPlace 6 = _
    unfold Program.inPlace
    rw [cl6_ok]
  exact (congrArg (Rows.logBackRow.inPlace == ·) h).trans (by kernel_rfl)
theorem unf : Tryz.prog.unfollowed 6 = true := by
  have h : Tryz.prog.unfollowed 6 = cl6.any fun g => (Tryz.prog.funcs[g]?).any fun fn => match fn.body with | some c => c.unfollowed | none => entryCalls fn := by
    unfold Program.unfollowed
    rw [cl6_ok]; rfl
  exact h.trans (by kernel_rfl)
theorem j10 : (Rows.logBackRow.unfollowed == Tryz.checked.prog.unfollowed 6) = true := by
  show (Rows.logBackRow.unfollowed == Tryz.prog.unfollowed 6) = true
  rw [unf]; rfl
theorem j11 : (Rows.logBackRow.recurses == Tryz.checked.prog.recurses 6) = true := by
  show (Rows.logBackRow.recurses == Tryz.prog.recurses 6) = true
  unfold Program.recurses
  rw [unf]; rfl
theorem j12 : (Rows.logBackRow.named == Tryz.checked.prog.varsNamed 6) = true := by
  show (Rows.logBackRow.named == Tryz.prog.varsNamed 6) = true
  have h : Tryz.prog.varsNamed 6 = ((((cl6).flatMap fun g => ((Tryz.prog.funcs[g]?).bind (·.body)).elim [] Code.globalsNamed).eraseDups).filterMap (fun g => (Tryz.prog.globals[g]?).map (·.name)) ++ (cl6).filterMap fun g => (Tryz.prog.funcs[g]?).bind fun fn => if fn.body.isNone then entryReads.lookup fn.name else none).eraseDups := by
    unfold Program.varsNamed
    rw [cl6_ok]
  exact (congrArg (Rows.logBackRow.named == ·) h).trans (by kernel_rfl)
end
end Go.Abs
