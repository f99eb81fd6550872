/- A part of the proof of DirectDifferences: see the last text of this claim. -/
import Derived.Test.YtfdpjfgkdjlomaaGreatDoorR3
import Derived.Test.YtfdpjfgkdjlomaaGreatDoorR4
namespace Go.Abs
noncomputable section
open Go Go.Proofs Go.Proofs.YtfdpjfgkdjlomaaGreatDoor
open Go.ChangeShapes Go.WideShapes Go.ChangeAt Go.RowKit
set_option maxRecDepth 100000 in
theorem directDifferences_lifted (os : Os) (started : os.Started) (H : Type) (enc : TypeId × Value → H) :
    ReturnsInHanded {} Tryz.checked os 3 .any (fun w args => (Rows.directDifferencesSpec.pre enc Tryz.prog Tryz.f3 [] false w args ∧ laidMet Tryz.prog Rows.directDifferencesRow.laid w) ∧ sizedMet enc Tryz.prog Tryz.f3 (OpenSpec.ofChange Rows.directDifferencesSpec) false w args)
      (Rows.directDifferencesSpec.post enc Tryz.prog Tryz.f3 false true false false) := by
  refine handed_shaped (C := Tryz.checked) (X := fun w _ => laidMet Tryz.prog Rows.directDifferencesRow.laid w) (fun _ _ _ hh h => laidMet.of_heap hh h) ownK started fNoInit Tryz.func3
    (ChangeSpec.witness_at (enc := enc) (C := Tryz.checked) (os := os) (X := fun w _ => laidMet Tryz.prog Rows.directDifferencesRow.laid w) false (World.laidAll Tryz.prog os Rows.directDifferencesRow.laid) argsT 8 (World.laidAll_os _ _ _) (fVars os) (fHeap os) (fOk os) (fPre os) (fSized os)
      (laidMet_laidAll _ (fFits os) (fIfaces os))) ?_
  intro W base args ds gs before hval0 hW _ hwt hsh hL _
  have hval : ∀ (j : Nat) t v, Tryz.f3.params[j]? = some t → args[j]? = some v → Value.okWide Tryz.prog W .any base t v := hval0
  have hW' := hW
  obtain ⟨p, q, hA0, hV, rfl, hfz, hnd⟩ := hW
  have hA : DataW.TrodAll enc Tryz.prog W 0 (fun _ => true) true Tryz.f3.params.toList args.toList ds p := hA0
  rw [Tryz.params3] at hA hval
  obtain ⟨v0, vs0, d0, ds0, p0, q0, hargs, rfl, rfl, h0, r0⟩ := trodAll_cons hA
  obtain ⟨v1, vs1, d1, ds1, p1, q1, rfl, rfl, rfl, h1, r1⟩ := trodAll_cons r0
  obtain ⟨rfl, rfl, rfl⟩ := trodAll_nil r1
  obtain rfl : args = #[v0, v1] := by cases args; simp_all
  obtain ⟨rfl, rfl⟩ := trodVars_none hV
  obtain ⟨cs0, rfl, _⟩ := okWide_struct st25 (hval 0 25 v0 rfl rfl)
  have k0 := h0
  have lt0 : ∀ x ∈ p0, x.block < W.heap.size := by obtain ⟨m, hm⟩ := k0; exact DataW.trod_lt m _ _ _ hm
  obtain ⟨cs1, rfl, _⟩ := okWide_struct st25 (hval 1 25 v1 rfl rfl)
  have k1 := h1
  have lt1 : ∀ x ∈ p1, x.block < W.heap.size := by obtain ⟨m, hm⟩ := k1; exact DataW.trod_lt m _ _ _ hm
  have hm : ∃ m, W.cell? ⟨0, 0, none⟩ = some (.int .i64 m) := maxLen_cell hsh
  have hb0 : ∃ b0, b0 < W.heap.size := ⟨0, by obtain ⟨m, hm⟩ := hm; exact (cell_spot hm).2⟩
  rw [Tryz.params3] at hwt
  have hwt : (DataW.weights Tryz.prog 25 d0 ++ (DataW.weights Tryz.prog 25 d1 ++ _)).all (· ≤ reachBytes) = true := hwt
  rw [List.all_append, List.all_append, Bool.and_eq_true, Bool.and_eq_true] at hwt
  obtain ⟨fuel0, hf0⟩ := h0
  obtain ⟨ch, ev, vd, st, hP, hr0⟩ := trod_run hb0 fuel0 _ _ hf0 hwt.1
  obtain ⟨fuel1, hf1⟩ := h1
  obtain ⟨ch2, ev2, vd2, st2, hQ, hr1⟩ := trod_run hb0 fuel1 _ _ hf1 hwt.2.1
  clear hA0 hval0
  refine (directDifferences_call hm hP hQ hr0 hr1).mono fun e W' ⟨he, bel⟩ => ?_
  subst he
  exact ⟨_, rfl, _, _, _, [], _, [], hW', trodAll_mk1 (shut_bool (show Tryz.prog.underlying 4 = some .bool by kernel_rfl) _), (trodAll_cons_mk (Below.trod j1 (by kernel_rfl) (of_decide_eq_true (by kernel_rfl)) k0 bel lt0) (trodAll_cons_mk (Below.trod j1 (by kernel_rfl) (of_decide_eq_true (by kernel_rfl)) k1 bel lt1) trodAll_mk0)), rfl, bel.frame _, fun h => by cases h⟩
theorem directDifferences_row : Rows.DirectDifferencesSaid :=
  OpenClaim.holds_of_wide 3 Tryz.f3 rfl rfl rfl rfl rfl rfl rfl ⟨rfl, rfl, rfl, rfl, rfl⟩ rfl rfl rfl rfl rfl fNamed Tryz.func3 fJoined
    fInst fWrap
    (fun os started H enc _ => directDifferences_lifted os started H enc)
end
end Go.Abs
