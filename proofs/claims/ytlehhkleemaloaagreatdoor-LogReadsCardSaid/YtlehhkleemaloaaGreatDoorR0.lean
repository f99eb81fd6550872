/- A part of the proofs of the laws of logs: see the last text of this claim. -/
import Derived.LaidLaws
import Derived.Test.YtlehhkleemaloaaGreatDoorB1
namespace Go.Abs
noncomputable section
open Go Go.Proofs
/-! ## The names of types: which is the errors' -/
theorem err_rows : ((List.range Tryz.prog.types.size).all fun u => Tryz.prog.typeName? 3 u != some ("*" ++ "errors.errorString") || u == 349) = true := by kernel_rfl
theorem err_type (u : Nat) (hu : Tryz.prog.typeName? 3 u = some ("*" ++ "errors.errorString")) : u = 349 :=
  typeName_ptr_named err_rows (by kernel_rfl) (of_decide_eq_true (by kernel_rfl)) u hu
end
end Go.Abs
