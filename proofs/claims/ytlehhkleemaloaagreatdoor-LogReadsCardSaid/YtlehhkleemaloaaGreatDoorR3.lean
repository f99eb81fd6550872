/- A part of the proofs of the laws of logs: see the last text of this claim. -/
import Derived.Test.YtlehhkleemaloaaGreatDoorR1
import Derived.Test.YtlehhkleemaloaaGreatDoorD2
namespace Go.Abs
noncomputable section
open Go Go.Proofs Go.Proofs.YtlehhkleemaloaaGreatDoor
open Go.ChangeShapes Go.WideShapes Go.ChangeAt Go.RowKit
/-! ## LogReads: the row -/
/-- the law's call, over whatever events -/
theorem logReads_call {W : World} {nn0 : Bool} {l0 : List (List UInt8)} (hv : Vars3 W) (hl0 : l0.length < big ∧ l0.length * 16 ≤ 140737488355328)  {v0 : Value} (h0 : Rel W (allF W) (textsA nn0 l0) Map.none v0) :
    Calls Tryz.prog 7 #[v0] W fun e W' => e = .returned (.bool true) ∧ Below W.heap.size W W' := by
  have K := run_ok (C := Cg big) (givenG big) mixed (logReads_c (K := big) (n := 9000) (Nat.le_refl _) nn0 l0 hl0.1 hl0.2 (Nat.le_refl _) Heap.empty)
  refine (calls_of (C := Cg big) (fn := Tryz.f7) (c := bodyOf Tryz.f7) (by kernel_rfl) (by kernel_rfl) (name_of 7 Tryz.f7 (by kernel_rfl)) K (grel hv big) (fun b hb => hb) (rel1 h0 rel0)).mono fun e W' h => ?_
  obtain ⟨v, F', μ', rfl, hr, _, hb⟩ := h
  unfold Rel at hr
  subst hr
  exact ⟨rfl, hb⟩
theorem ownK : ownKnob Tryz.prog.godebug = none := by kernel_rfl
noncomputable def argsT : Array Value := #[.slice none 0 0]
noncomputable def wT (os : Os) : World := (World.laidAll Tryz.prog os Rows.logReadsRow.laid).forCall (fun _ _ => 0) ⟨#[], argsT, []⟩
theorem fNoInit : Tryz.checked.prog.inits.idxOf? 7 = none := by kernel_rfl
theorem fVars (os : Os) : (wT os).variablesB Tryz.checked.prog = true := by kernel_rfl
theorem fHeap (os : Os) : ((wT os).heap.toList.drop Tryz.checked.prog.globals.size).take ((begin Tryz.checked.prog (fun _ _ => 0) default).world.heap.size - Tryz.checked.prog.globals.size) = (begin Tryz.checked.prog (fun _ _ => 0) default).world.heap.toList.drop Tryz.checked.prog.globals.size := by kernel_rfl
theorem fOk (os : Os) : Input.okWideB Tryz.checked.prog (wT os) 7 ⟨#[], argsT, []⟩ = true := by kernel_rfl
theorem fPre (os : Os) {H : Type} {enc : TypeId × Value → H} : Rows.logReadsSpec.preB enc Tryz.checked.prog Tryz.f7 [] false (wT os).memory argsT 8 = true := by kernel_rfl
theorem fSized (os : Os) {H : Type} {enc : TypeId × Value → H} : Rows.logReadsSpec.sizedB enc Tryz.checked.prog Tryz.f7 false (wT os).memory argsT 8 = true := by kernel_rfl
theorem fFits (os : Os) : (World.holding Tryz.prog os ⟨#[], #[], []⟩).layFits Tryz.prog Rows.logReadsRow.laid [] = true := by kernel_rfl
theorem fIfaces (os : Os) : (World.holding Tryz.prog os ⟨#[], #[], []⟩).layIfaces Tryz.prog Rows.logReadsRow.laid (World.laidAll Tryz.prog os Rows.logReadsRow.laid) = true := by kernel_rfl
theorem fNamed : Tryz.pinned.checked.prog.funcNamed Rows.logReadsRow.func = some 7 := by kernel_rfl
theorem fInst : Tryz.f7.isInstance Tryz.pinned.checked.prog Rows.logReadsRow.origin Rows.logReadsRow.targs := of_decide_eq_true (by kernel_rfl)
theorem fWrap : Tryz.f7.isWrapper Tryz.pinned.checked.prog Rows.logReadsRow.wrapper Rows.logReadsRow.mainSum := by
  unfold Func.isWrapper; first | (rw [if_pos (by decide +kernel)]; kernel_rfl) | (rw [if_neg (by decide +kernel)]; exact ⟨rfl, rfl⟩)
end
end Go.Abs
