/- Proved here: for every two runs the statement DirectDifferences returns true, and its arguments read behind the call as before; its conditions are those of its row and card alone (what the listed variables hold is tied to the program; no more room is taken by what is read than the form of the statement grants). -/
import Derived.Test.YtfdpjfgkdjlomaaGreatDoorCards
import Derived.SevenTiedAt
import Derived.Test.YtfdpjfgkdjlomaaGreatDoorT4
import Derived.Test.YtfdpjfgkdjlomaaGreatDoorR5
namespace Go.Abs
noncomputable section
open Go Go.Proofs Go.Proofs.YtfdpjfgkdjlomaaGreatDoor
/-! ## DirectDifferences: the card -/
theorem cWf : Rows.directDifferencesRow.wfByText (OpenSpec.ofChange Rows.directDifferencesSpec) = true := by kernel_rfl
theorem cMain : Tryz.pinned.checked.prog.mainIs = some (true, "439e8a521ecfca2b15445b70fa993616db3db1180d183c7ddee66d9917ab7c06".toList) := by kernel_rfl
theorem cLooks : true = Tryz.pinned.checked.prog.looks [] := by kernel_rfl
theorem cStand : ([25, 25].all fun u => !Tryz.prog.wantsStandIn u) = true := by kernel_rfl
theorem cNoGo : Tryz.prog.funcs.any Func.goes = false := by kernel_rfl
theorem goes_no {P : Program} (h : P.funcs.any Func.goes = false) (f : FuncId) : P.goes f = false := by
  have h1 : ∀ fn ∈ P.funcs, Func.goes fn = false := by
    intro fn hm
    cases hg : Func.goes fn with
    | false => rfl
    | true =>
      rw [Array.any_eq_false] at h
      obtain ⟨i, hi, rfl⟩ := Array.getElem_of_mem hm
      exact absurd hg (h i hi)
  have h2 : ((P.closure f).any fun g => (P.funcs[g]?).any Func.goes) = false := by
    rw [List.any_eq_false]
    intro g _
    cases hg : P.funcs[g]? with
    | none => simp
    | some fn =>
      have := h1 fn (Array.mem_of_getElem? hg)
      simp [this]
  unfold Program.goes
  rw [h2, h, Bool.and_false]; rfl
theorem goes_or {P : Program} (h : P.funcs.any Func.goes = false) (f : FuncId) : ((some f : Option Nat).any P.goes || false) = false := by
  show (P.goes f || false) = false
  rw [goes_no h]; rfl
theorem cGoes : false = Rows.directDifferencesRow.goesBy Tryz.pinned.checked.prog := by
  have h : Rows.directDifferencesRow.goesBy Tryz.pinned.checked.prog = ((Tryz.pinned.checked.prog.funcNamed Rows.directDifferencesRow.func).any Tryz.prog.goes || false) := rfl
  exact (h.trans ((congrArg (fun x : Option Nat => x.any Tryz.prog.goes || false) fNamed).trans (goes_or cNoGo 3))).symm
theorem directDifferences_card : Rows.DirectDifferencesCardSaid :=
  Claim7.holds_tied_plain_at .later [] [.data, .data, .data, .pinned, .data, .sentinel, .sentinel] true (true, "439e8a521ecfca2b15445b70fa993616db3db1180d183c7ddee66d9917ab7c06") true
    directDifferences_row (fun _ h => by cases h) cWf (fun _ h => by cases h) directDifferences_row_tie rfl ⟨rfl, rfl⟩ cMain rfl
    (fun f fn hf hfn => by
      obtain rfl : f = 3 := Option.some.inj (fNamed.symm.trans hf) |>.symm
      obtain rfl : fn = Tryz.f3 := (Option.some.inj (Tryz.func3.symm.trans hfn)).symm
      exact ⟨cLooks, fun j t ht => by
        rw [Tryz.params3] at ht
        have hm : t ∈ [25, 25] := by simpa using Array.mem_of_getElem? ht
        exact (show Tryz.prog.wantsStandIn t = false by simpa using List.all_eq_true.1 cStand t hm)⟩)
    cGoes
end
end Go.Abs

namespace Go.Proofs.YtfdpjfgkdjlomaaGreatDoor
/-- The card of DirectDifferences holds. -/
theorem directDifferences_proved : Rows.DirectDifferencesCardSaid := Go.Abs.directDifferences_card
#print axioms directDifferences_proved
end Go.Proofs.YtfdpjfgkdjlomaaGreatDoor
