/- A part of the proofs of the laws of logs: see the last text of this claim. -/
import Derived.Test.YtlehhkleemaloaaGreatDoorR1
import Derived.Test.YtlehhkleemaloaaGreatDoorD2
namespace Go.Abs
noncomputable section
open Go Go.Proofs Go.Proofs.YtlehhkleemaloaaGreatDoor
open Go.ChangeShapes Go.WideShapes Go.ChangeAt Go.RowKit
/-! ## LogBack: the row -/
/-- the law's call, over whatever events -/
theorem logBack_call {W : World} {e0 : Ev} {s1 : List UInt8} {d : Nat} (hv : Vars3 W) (hd0 : e0.val.dep ≤ d ∧ e0.val.ok)  {v0 v1 : Value} (h0 : Rel W (allF W) (.agg e0.elv) Map.none v0) (h1 : Rel W (allF W) (.str s1) Map.none v1) :
    Calls Tryz.prog 6 #[v0, v1] W fun e W' => e = .returned (.bool true) ∧ Below W.heap.size W W' := by
  have K := run_ok (C := Cg big) (givenG big) mixed (logBack_c (K := big) (d := d) (n := d + 9000) (Nat.le_refl _) e0 s1 hd0.1 hd0.2 (Nat.le_refl _) Heap.empty)
  refine (calls_of (C := Cg big) (fn := Tryz.f6) (c := bodyOf Tryz.f6) (by kernel_rfl) (by kernel_rfl) (name_of 6 Tryz.f6 (by kernel_rfl)) K (grel hv big) (fun b hb => hb) (rel1 h0 (rel1 h1 rel0))).mono fun e W' h => ?_
  obtain ⟨v, F', μ', rfl, hr, _, hb⟩ := h
  unfold Rel at hr
  subst hr
  exact ⟨rfl, hb⟩
theorem ownK : ownKnob Tryz.prog.godebug = none := by kernel_rfl
noncomputable def argsT : Array Value := #[.agg #[.int .i64 0, .int .i64 0, .string ⟨#[]⟩, .string ⟨#[]⟩, .int .i64 0, .int .i64 0, .int .i64 0, .string ⟨#[]⟩, .slice none 0 0, .slice none 0 0, .int .i64 0], .string ⟨#[]⟩]
noncomputable def wT (os : Os) : World := (World.laidAll Tryz.prog os Rows.logBackRow.laid).forCall (fun _ _ => 0) ⟨#[], argsT, []⟩
theorem fNoInit : Tryz.checked.prog.inits.idxOf? 6 = none := by kernel_rfl
theorem fVars (os : Os) : (wT os).variablesB Tryz.checked.prog = true := by kernel_rfl
theorem fHeap (os : Os) : ((wT os).heap.toList.drop Tryz.checked.prog.globals.size).take ((begin Tryz.checked.prog (fun _ _ => 0) default).world.heap.size - Tryz.checked.prog.globals.size) = (begin Tryz.checked.prog (fun _ _ => 0) default).world.heap.toList.drop Tryz.checked.prog.globals.size := by kernel_rfl
theorem fOk (os : Os) : Input.okWideB Tryz.checked.prog (wT os) 6 ⟨#[], argsT, []⟩ = true := by kernel_rfl
theorem fPre (os : Os) {H : Type} {enc : TypeId × Value → H} : Rows.logBackSpec.preB enc Tryz.checked.prog Tryz.f6 [] false (wT os).memory argsT 8 = true := by kernel_rfl
theorem fSized (os : Os) {H : Type} {enc : TypeId × Value → H} : Rows.logBackSpec.sizedB enc Tryz.checked.prog Tryz.f6 false (wT os).memory argsT 8 = true := by kernel_rfl
theorem fFits (os : Os) : (World.holding Tryz.prog os ⟨#[], #[], []⟩).layFits Tryz.prog Rows.logBackRow.laid [] = true := by kernel_rfl
theorem fIfaces (os : Os) : (World.holding Tryz.prog os ⟨#[], #[], []⟩).layIfaces Tryz.prog Rows.logBackRow.laid (World.laidAll Tryz.prog os Rows.logBackRow.laid) = true := by kernel_rfl
theorem fNamed : Tryz.pinned.checked.prog.funcNamed Rows.logBackRow.func = some 6 := by kernel_rfl
theorem fInst : Tryz.f6.isInstance Tryz.pinned.checked.prog Rows.logBackRow.origin Rows.logBackRow.targs := of_decide_eq_true (by kernel_rfl)
theorem fWrap : Tryz.f6.isWrapper Tryz.pinned.checked.prog Rows.logBackRow.wrapper Rows.logBackRow.mainSum := by
  unfold Func.isWrapper; first | (rw [if_pos (by decide +kernel)]; kernel_rfl) | (rw [if_neg (by decide +kernel)]; exact ⟨rfl, rfl⟩)
end
end Go.Abs
