/- A part of the proof of DirectDifferences: see the last text of this claim. -/
import Derived.LaidByTextLater
import Derived.SevenTiedAt
import Derived.LaidSub
import Derived.LaidOnce
import Derived.Test.YtfdpjfgkdjlomaaGreatDoorT1
namespace Go.Abs
noncomputable section
open Go Go.Proofs Go.Proofs.YtfdpjfgkdjlomaaGreatDoor
set_option maxRecDepth 100000
theorem tId : varsId Tryz.prog = 772 := by kernel_rfl
theorem tG : (Tryz.prog.funcNamed "gosem.cut.vars").isSome = true := by kernel_rfl
theorem varsNamed_cons {P : Program} {g : FuncId} {x : String × DataW Unit} {l : List (String × DataW Unit)} (h : varsNamedLaterB P g [x] = true) (hl : varsNamedLaterB P g l = true) : varsNamedLaterB P g (x :: l) = true := by
  unfold varsNamedLaterB at h hl ⊢
  split at h
  · rename_i code hc
    simp only [hc] at hl ⊢
    split at h
    · rename_i stored hs
      simp only [hs] at hl ⊢
      rw [List.all_cons]
      rw [Bool.and_eq_true] at h hl ⊢
      rw [List.all_cons, List.all_nil, Bool.and_true] at h
      exact ⟨hl.1, by rw [Bool.and_eq_true]; exact ⟨h.2, hl.2⟩⟩
    · cases h
  · cases h
theorem tN0 : varsNamedLaterB Tryz.prog 772 [lv0] = true := by kernel_rfl
theorem tN1 : varsNamedLaterB Tryz.prog 772 [lv1] = true := by kernel_rfl
theorem tN2 : varsNamedLaterB Tryz.prog 772 [lv2] = true := by kernel_rfl
theorem tN3 : varsNamedLaterB Tryz.prog 772 [lv3] = true := by kernel_rfl
theorem tN4 : varsNamedLaterB Tryz.prog 772 [lv4] = true := by kernel_rfl
theorem tN5 : varsNamedLaterB Tryz.prog 772 [lv5] = true := by kernel_rfl
theorem tN : varsNamedLaterB Tryz.prog (varsId Tryz.prog) lvs = true := by
  rw [tId]
  exact varsNamed_cons tN0 (varsNamed_cons tN1 (varsNamed_cons tN2 (varsNamed_cons tN3 (varsNamed_cons tN4 tN5))))
end
end Go.Abs
