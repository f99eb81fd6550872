/- A part of the proof of LogLists: see the last text of this claim. -/
import Derived.Test.YtlehhkleemaloaaGreatDoorQ1
namespace Go.Abs
noncomputable section
open Go Go.Proofs Go.Proofs.YtlehhkleemaloaaGreatDoor
theorem j9 : (Rows.logListsRow.inPlace == Tryz.checked.prog.inPlace 3) = true := by
  have h : Tryz.checked.prog.inPlace 3 = cl3.filterMap fun g => (Tryz.prog.funcs[g]?).bind fun fn => if fn.ours || fn.body.isNone || fn.name == "runtime.NumGoroutine" then some fn.name else none := by
    show Tryz.prog.inPlace 3 = _
    unfold Program.inPlace
    rw [cl3_ok]
  exact (congrArg (Rows.logListsRow.inPlace == ·) h).trans (by kernel_rfl)
theorem unf : Tryz.prog.unfollowed 3 = true := by
  have h : Tryz.prog.unfollowed 3 = cl3.any fun g => (Tryz.prog.funcs[g]?).any fun fn => match fn.body with | some c => c.unfollowed | none => entryCalls fn := by
    unfold Program.unfollowed
    rw [cl3_ok]; rfl
  exact h.trans (by kernel_rfl)
theorem j10 : (Rows.logListsRow.unfollowed == Tryz.checked.prog.unfollowed 3) = true := by
  show (Rows.logListsRow.unfollowed == Tryz.prog.unfollowed 3) = true
  rw [unf]; rfl
theorem j11 : (Rows.logListsRow.recurses == Tryz.checked.prog.recurses 3) = true := by
  show (Rows.logListsRow.recurses == Tryz.prog.recurses 3) = true
  unfold Program.recurses
  rw [unf]; rfl
theorem j12 : (Rows.logListsRow.named == Tryz.checked.prog.varsNamed 3) = true := by
  show (Rows.logListsRow.named == Tryz.prog.varsNamed 3) = true
  have h : Tryz.prog.varsNamed 3 = ((((cl3).flatMap fun g => ((Tryz.prog.funcs[g]?).bind (·.body)).elim [] Code.globalsNamed).eraseDups).filterMap (fun g => (Tryz.prog.globals[g]?).map (·.name)) ++ (cl3).filterMap fun g => (Tryz.prog.funcs[g]?).bind fun fn => if fn.body.isNone then entryReads.lookup fn.name else none).eraseDups := by
    unfold Program.varsNamed
    rw [cl3_ok]
  exact (congrArg (Rows.logListsRow.named == ·) h).trans (by kernel_rfl)
end
end Go.Abs
