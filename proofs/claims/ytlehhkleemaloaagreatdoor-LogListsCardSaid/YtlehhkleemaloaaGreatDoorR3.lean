/- A part of the proof of LogLists: see the last text of this claim. -/
import Derived.Test.YtlehhkleemaloaaGreatDoorR1
import Derived.Test.YtlehhkleemaloaaGreatDoorB5
namespace Go.Abs
noncomputable section
open Go Go.Proofs Go.Proofs.YtlehhkleemaloaaGreatDoor
open Go.ChangeShapes Go.WideShapes Go.ChangeAt Go.RowKit

/-! ## LogLists: the row -/
/-- the law's call, over whatever events -/
theorem logLists_call {W : World} {nn : Bool} {l : List Ev} {d : Nat} (hv : Go.Lib.VarReads Tryz.prog W "internal/strconv.uint64pow10" Rows.laid_internal_strconv_uint64pow10)
    (hd : ∀ i, i < l.length → (l.getD i default).val.dep ≤ d ∧ (l.getD i default).val.ok) (hl : l.length < big) {v0 : Value} (h0 : Rel W (allF W) (evsA nn l) Map.none v0) :
    Calls Tryz.prog 3 #[v0] W fun e W' => e = .returned (.bool true) ∧ Below W.heap.size W W' := by
  have K := run_ok (C := Cg big) (givenG big) mixed (logLists_c (K := big) (d := d) (n := d + 10) (Nat.le_refl _) nn l hd hl (Nat.le_refl _) Heap.empty)
  refine (calls_of (C := Cg big) (fn := Tryz.f3) (c := bodyOf Tryz.f3) (by kernel_rfl) (by kernel_rfl) (name_of 3 Tryz.f3 (by kernel_rfl)) K (grel hv big) (fun b hb => hb) (rel1 h0 rel0)).mono fun e W' h => ?_
  obtain ⟨v, F', μ', rfl, hr, _, hb⟩ := h
  unfold Rel at hr
  subst hr
  exact ⟨rfl, hb⟩
theorem ownK : ownKnob Tryz.prog.godebug = none := by kernel_rfl
noncomputable def argsT : Array Value := #[.slice none 0 0]
noncomputable def wT (os : Os) : World := (World.laidAll Tryz.prog os Rows.logListsRow.laid).forCall (fun _ _ => 0) ⟨#[], argsT, []⟩
theorem fNoInit : Tryz.checked.prog.inits.idxOf? 3 = none := by kernel_rfl
theorem fVars (os : Os) : (wT os).variablesB Tryz.checked.prog = true := by kernel_rfl
theorem fHeap (os : Os) : ((wT os).heap.toList.drop Tryz.checked.prog.globals.size).take ((begin Tryz.checked.prog (fun _ _ => 0) default).world.heap.size - Tryz.checked.prog.globals.size) = (begin Tryz.checked.prog (fun _ _ => 0) default).world.heap.toList.drop Tryz.checked.prog.globals.size := by kernel_rfl
theorem fOk (os : Os) : Input.okWideB Tryz.checked.prog (wT os) 3 ⟨#[], argsT, []⟩ = true := by kernel_rfl
theorem fPre (os : Os) {H : Type} {enc : TypeId × Value → H} : Rows.logListsSpec.preB enc Tryz.checked.prog Tryz.f3 [] false (wT os).memory argsT 8 = true := by kernel_rfl
theorem fSized (os : Os) {H : Type} {enc : TypeId × Value → H} : Rows.logListsSpec.sizedB enc Tryz.checked.prog Tryz.f3 false (wT os).memory argsT 8 = true := by kernel_rfl
theorem fFits (os : Os) : (World.holding Tryz.prog os ⟨#[], #[], []⟩).layFits Tryz.prog Rows.logListsRow.laid [] = true := by kernel_rfl
theorem fIfaces (os : Os) : (World.holding Tryz.prog os ⟨#[], #[], []⟩).layIfaces Tryz.prog Rows.logListsRow.laid (World.laidAll Tryz.prog os Rows.logListsRow.laid) = true := by kernel_rfl
theorem fNamed : Tryz.pinned.checked.prog.funcNamed Rows.logListsRow.func = some 3 := by kernel_rfl
theorem fInst : Tryz.f3.isInstance Tryz.pinned.checked.prog Rows.logListsRow.origin Rows.logListsRow.targs := of_decide_eq_true (by kernel_rfl)
theorem fWrap : Tryz.f3.isWrapper Tryz.pinned.checked.prog Rows.logListsRow.wrapper Rows.logListsRow.mainSum := by
  unfold Func.isWrapper; first | (rw [if_pos (by decide +kernel)]; kernel_rfl) | (rw [if_neg (by decide +kernel)]; exact ⟨rfl, rfl⟩)
end
end Go.Abs
