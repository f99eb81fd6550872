/- A part of the proof of LogParts: see the last text of this claim. -/
import Derived.Test.YtlehhkleemaloaaGreatDoorQ1
namespace Go.Abs
noncomputable section
open Go Go.Proofs Go.Proofs.YtlehhkleemaloaaGreatDoor
theorem j9 : (Rows.logPartsRow.inPlace == Tryz.checked.prog.inPlace 4) = true := by
  have h : Tryz.checked.prog.inPlace 4 = cl4.filterMap fun g => (Tryz.prog.funcs[g]?).bind fun fn => if fn.ours || fn.body.isNone || fn.name == "runtime.NumGoroutine" then some fn.name else none := by
    show Tryz.prog.inPlace 4 = _
    unfold Program.inPlace
    rw [cl4_ok]
  exact (congrArg (Rows.logPartsRow.inPlace == ·) h).trans (by kernel_rfl)
theorem unf : Tryz.prog.unfollowed 4 = true := by
  have h : Tryz.prog.unfollowed 4 = cl4.any fun g => (Tryz.prog.funcs[g]?).any fun fn => match fn.body with | some c => c.unfollowed | none => entryCalls fn := by
    unfold Program.unfollowed
    rw [cl4_ok]; rfl
  exact h.trans (by kernel_rfl)
theorem j10 : (Rows.logPartsRow.unfollowed == Tryz.checked.prog.unfollowed 4) = true := by
  show (Rows.logPartsRow.unfollowed == Tryz.prog.unfollowed 4) = true
  rw [unf]; rfl
theorem j11 : (Rows.logPartsRow.recurses == Tryz.checked.prog.recurses 4) = true := by
  show (Rows.logPartsRow.recurses == Tryz.prog.recurses 4) = true
  unfold Program.recurses
  rw [unf]; rfl
theorem j12 : (Rows.logPartsRow.named == Tryz.checked.prog.varsNamed 4) = true := by
  show (Rows.logPartsRow.named == Tryz.prog.varsNamed 4) = true
  have h : Tryz.prog.varsNamed 4 = ((((cl4).flatMap fun g => ((Tryz.prog.funcs[g]?).bind (·.body)).elim [] Code.globalsNamed).eraseDups).filterMap (fun g => (Tryz.prog.globals[g]?).map (·.name)) ++ (cl4).filterMap fun g => (Tryz.prog.funcs[g]?).bind fun fn => if fn.body.isNone then entryReads.lookup fn.name else none).eraseDups := by
    unfold Program.varsNamed
    rw [cl4_ok]
  exact (congrArg (Rows.logPartsRow.named == ·) h).trans (by kernel_rfl)
end
end Go.Abs
