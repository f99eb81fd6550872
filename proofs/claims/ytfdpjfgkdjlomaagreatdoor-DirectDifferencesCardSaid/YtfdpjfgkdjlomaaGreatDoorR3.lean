/- A part of the proof of DirectDifferences: see the last text of this claim. -/
import Derived.Test.YtfdpjfgkdjlomaaGreatDoorRows
import Derived.Lay
import Derived.Test.YtfdpjfgkdjlomaaGreatDoorN1
import Derived.Test.YtfdpjfgkdjlomaaGreatDoorR2
import Derived.Test.YtfdpjfgkdjlomaaGreatDoorK4
namespace Go.Abs
noncomputable section
open Go Go.Proofs Go.Proofs.YtfdpjfgkdjlomaaGreatDoor
open Go.ChangeShapes Go.WideShapes Go.ChangeAt Go.RowKit
/-! ## DirectDifferences: the row -/
/-- the law's call, over whatever runs -/
theorem directDifferences_call {W : World} {ch : List Int} {ev : List Mev} {vd : List Int} {st : Int} {ch2 : List Int} {ev2 : List Mev} {vd2 : List Int} {st2 : Int} (hm : ∃ m, W.cell? ⟨0, 0, none⟩ = some (.int .i64 m)) (hP : RunOk ch ev vd) (hQ : RunOk ch2 ev2 vd2) {v0 v1 : Value}
    (h0 : Rel W (allF W) (.agg [.slT .int ch false, .slT .event ev false, .slT .int vd false, .int .i64 st]) Map.none v0) (h1 : Rel W (allF W) (.agg [.slT .int ch2 false, .slT .event ev2 false, .slT .int vd2 false, .int .i64 st2]) Map.none v1) :
    Calls Tryz.prog 3 #[v0, v1] W fun e W' => e = .returned (.bool true) ∧ Below W.heap.size W W' := by
  refine (calls_of (C := CB) (fn := Tryz.f3) (c := bodyOf Tryz.f3) (by kernel_rfl) (by kernel_rfl) (name_of 3 Tryz.f3 (by kernel_rfl)) (law_ok hP hQ Heap.empty) (grel hm) (fun b hb => hb) (rel1 h0 (rel1 h1 rel0))).mono fun e W' h => ?_
  obtain ⟨v, F', μ', rfl, hr, _, hb⟩ := h
  unfold gB Rel at hr
  subst hr
  exact ⟨rfl, hb⟩
theorem ownK : ownKnob Tryz.prog.godebug = none := by kernel_rfl
theorem fNoInit : Tryz.checked.prog.inits.idxOf? 3 = none := by kernel_rfl
theorem fNamed : Tryz.pinned.checked.prog.funcNamed Rows.directDifferencesRow.func = some 3 := by kernel_rfl
theorem fInst : Tryz.f3.isInstance Tryz.pinned.checked.prog Rows.directDifferencesRow.origin Rows.directDifferencesRow.targs := of_decide_eq_true (by kernel_rfl)
theorem fWrap : Tryz.f3.isWrapper Tryz.pinned.checked.prog Rows.directDifferencesRow.wrapper Rows.directDifferencesRow.mainSum := by
  unfold Func.isWrapper; first | (rw [if_pos (by decide +kernel)]; kernel_rfl) | (rw [if_neg (by decide +kernel)]; exact ⟨rfl, rfl⟩)
end
end Go.Abs
