/- A part of the proof of DirectDifferences: see the last text of this claim. -/
import Derived.Test.YtfdpjfgkdjlomaaGreatDoorRows
import Derived.Handed
import Derived.WalkKit
import Derived.ProofKit
import Derived.OpenShut
import Derived.ShutString
import Derived.ChangeOld
import Derived.Below
import Derived.Carry
import Derived.LaidLaws
import Derived.ClosedOfChecked
import Derived.Test.YtfdpjfgkdjlomaaGreatDoorQ2
namespace Go.Abs
noncomputable section
open Go Go.Proofs Go.Proofs.YtfdpjfgkdjlomaaGreatDoor
open Go.ChangeShapes Go.WideShapes Go.ChangeAt Go.RowKit
/-! ## The row's closed facts, one by one -/
theorem fTypes : Tryz.checked.prog.types = Tryz.checked.src.types := by kernel_rfl
theorem fRest1 : Tryz.checked.prog.globals.all (fun g => decide (g.type < Tryz.checked.prog.types.size)) = true := by kernel_rfl
theorem fRest2 : Tryz.checked.prog.funcs.all (fun f => f.params.all fun t => decide (t < Tryz.checked.prog.types.size)) = true := by kernel_rfl
theorem andT {a b : Bool} (h : a = true) (k : b = true) : (a && b) = true := by subst h; subst k; rfl
theorem fSpec : Go.ClosedOfChecked.AllSpec Tryz.checked.prog := Go.ClosedOfChecked.allSpec_of Tryz.checked.wellFormed fTypes
theorem j0 : Rows.directDifferencesRow.wf (OpenSpec.ofChange Rows.directDifferencesSpec) = true := by kernel_rfl
theorem j1 : laidOutB Tryz.checked.prog = true := Go.ClosedOfChecked.laidOutB_of fSpec (andT fRest1 fRest2)
theorem j2 : mapsRowed Tryz.checked.prog = true := Go.ClosedOfChecked.mapsRowed_of fSpec
theorem j3 : Tryz.f3.params.all (Tryz.checked.prog.readableRec ·) = true := by kernel_rfl
theorem j4 : namedTie Tryz.checked.prog Rows.directDifferencesRow.named Rows.directDifferencesSpec.vars = true := by kernel_rfl
theorem j5 : (Rows.directDifferencesRow.stops == []) = true := by kernel_rfl
theorem j6 : (Tryz.checked.prog.stops == []) = true := by kernel_rfl
theorem j7 : (Rows.directDifferencesRow.knobs == []) = true := by kernel_rfl
theorem j8 : (Tryz.checked.prog.stopKnobs == []) = true := by kernel_rfl
theorem j13 : (Rows.directDifferencesRow.maps == (Tryz.f3.params.toList ++ Rows.directDifferencesSpec.plain.varTypes Tryz.checked.prog).any (Tryz.checked.prog.mapsRec ·)) = true := by kernel_rfl
theorem j14 : (Rows.directDifferencesRow.ifaces == (Tryz.f3.params.toList ++ Rows.directDifferencesSpec.plain.varTypes Tryz.checked.prog).any (Tryz.checked.prog.ifacesRec ·)) = true := by kernel_rfl
theorem j15 : (Rows.directDifferencesRow.mapsOut == Tryz.checked.prog.mapsAmong Tryz.f3.resultTypes.toList) = true := by kernel_rfl
theorem j16 : (Rows.directDifferencesRow.loops == (Tryz.f3.params.toList ++ Rows.directDifferencesSpec.plain.varTypes Tryz.checked.prog).any (Tryz.checked.prog.loopsFrom ·)) = true := by kernel_rfl
theorem j17 : (Rows.directDifferencesRow.wideKeys == (Tryz.f3.params.toList ++ Rows.directDifferencesSpec.plain.varTypes Tryz.checked.prog ++ Tryz.f3.resultTypes.toList).any (Tryz.checked.prog.wideKeysFrom ·)) = true := by kernel_rfl
theorem j18 : Rows.directDifferencesSpec.vars.all (Tryz.checked.prog.varReadable ·) = true := by kernel_rfl
theorem j19 : Tryz.f3.resultTypes.all (fun t => Tryz.checked.prog.readableRec t && decide (t < Tryz.checked.prog.types.size)) = true := by kernel_rfl
theorem j20 : (Rows.directDifferencesRow.ifacesOut == Tryz.f3.resultTypes.toList.any (Tryz.checked.prog.ifacesRec ·)) = true := by kernel_rfl
theorem j21 : (Rows.directDifferencesRow.loopsOut == Tryz.f3.resultTypes.toList.any (Tryz.checked.prog.loopsFrom ·)) = true := by kernel_rfl
theorem j22 : (Rows.directDifferencesRow.plainKeys == Tryz.checked.prog.plainKeys) = true := by kernel_rfl
theorem j23 : Rows.directDifferencesRow.shortTexts.isNone = true := by kernel_rfl
theorem j24 : Tryz.checked.prog.stopsHeard = true := by kernel_rfl
theorem j25 : Tryz.checked.prog.mayEnter = true := by kernel_rfl
theorem j26 : (Rows.directDifferencesRow.lifted == Tryz.checked.prog.liftsFinal) = true := by kernel_rfl
theorem j27 : (Tryz.checked.prog.make == some Rows.directDifferencesRow.make) = true := by kernel_rfl
theorem j28 : (Rows.directDifferencesRow.kinds == (if Rows.directDifferencesRow.domain.isEmpty then [] else Tryz.f3.params.toList.map fun t => match Tryz.checked.prog.underlying t with | some (.int k) => some k | _ => none)) = true := by kernel_rfl
theorem j29 : (Rows.directDifferencesRow.pinned == Rows.directDifferencesRow.pinnedBy) = true := by kernel_rfl
theorem j30 : (Rows.directDifferencesRow.veiled == (Tryz.f3.params.toList ++ Rows.directDifferencesSpec.plain.varTypes Tryz.checked.prog ++ Tryz.f3.resultTypes.toList).any (Tryz.checked.prog.veiledRec ·)) = true := by kernel_rfl
theorem j31 : Rows.directDifferencesRow.veiledFits Tryz.checked.prog Tryz.f3.params.toList (Tryz.f3.params.toList ++ Rows.directDifferencesSpec.plain.varTypes Tryz.checked.prog ++ Tryz.f3.resultTypes.toList) = true := by kernel_rfl
set_option maxRecDepth 10000 in
theorem fJoined : joinedFacts Tryz.pinned.checked.prog 3 Tryz.f3 Rows.directDifferencesSpec Rows.directDifferencesRow = true := (andT (andT (andT (andT (andT (andT (andT (andT (andT (andT (andT (andT (andT (andT (andT (andT (andT (andT (andT (andT (andT (andT (andT (andT (andT (andT (andT (andT (andT (andT (andT j0 j1) j2) j3) j4) j5) j6) j7) j8) j9) j10) j11) j12) j13) j14) j15) j16) j17) j18) j19) j20) j21) j22) j23) j24) j25) j26) j27) j28) j29) j30) j31)
end
end Go.Abs
