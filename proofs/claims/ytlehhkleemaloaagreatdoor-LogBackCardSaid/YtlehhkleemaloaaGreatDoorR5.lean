/- A part of the proofs of the laws of logs: see the last text of this claim. -/
import Derived.Test.YtlehhkleemaloaaGreatDoorR3
import Derived.Test.YtlehhkleemaloaaGreatDoorR4
namespace Go.Abs
noncomputable section
open Go Go.Proofs Go.Proofs.YtlehhkleemaloaaGreatDoor
open Go.ChangeShapes Go.WideShapes Go.ChangeAt Go.RowKit
set_option maxRecDepth 100000 in
theorem logBack_lifted (os : Os) (started : os.Started) (H : Type) (enc : TypeId × Value → H) :
    ReturnsInHanded {} Tryz.checked os 6 .any (fun w args => (Rows.logBackSpec.pre enc Tryz.prog Tryz.f6 [] false w args ∧ laidMet Tryz.prog Rows.logBackRow.laid w) ∧ sizedMet enc Tryz.prog Tryz.f6 (OpenSpec.ofChange Rows.logBackSpec) false w args)
      (Rows.logBackSpec.post enc Tryz.prog Tryz.f6 false true false false) := by
  refine returnsInHanded_of_change_and (C := Tryz.checked) (X := fun w _ => laidMet Tryz.prog Rows.logBackRow.laid w) (fun _ _ _ hh h => laidMet.of_heap hh h) ownK started fNoInit Tryz.func6
    (ChangeSpec.witness_at (enc := enc) (C := Tryz.checked) (os := os) (X := fun w _ => laidMet Tryz.prog Rows.logBackRow.laid w) false (World.laidAll Tryz.prog os Rows.logBackRow.laid) argsT 8 (World.laidAll_os _ _ _) (fVars os) (fHeap os) (fOk os) (fPre os) (fSized os)
      (laidMet_laidAll _ (fFits os) (fIfaces os))) ?_
  intro W base args ds gs before hval0 hW _ _ hL _
  have hval : ∀ (j : Nat) t v, Tryz.f6.params[j]? = some t → args[j]? = some v → Value.okWide Tryz.prog W .any base t v := hval0
  have hW' := hW
  obtain ⟨p, q, hA0, hV, rfl, hfz, hnd⟩ := hW
  have hA : DataW.TrodAll enc Tryz.prog W 0 (fun _ => true) true Tryz.f6.params.toList args.toList ds p := hA0
  rw [Tryz.params6] at hA hval
  obtain ⟨v0, vs0, d0, ds0, p0, q0, hargs, rfl, rfl, h0, r0⟩ := trodAll_cons hA
  obtain ⟨v1, vs1, d1, ds1, p1, q1, rfl, rfl, rfl, h1, r1⟩ := trodAll_cons r0
  obtain ⟨rfl, rfl, rfl⟩ := trodAll_nil r1
  obtain rfl : args = #[v0, v1] := by cases args; simp_all
  obtain ⟨rfl, rfl⟩ := trodVars_none hV
  obtain ⟨cs0, rfl, _⟩ := okWide_struct st37 (hval 0 37 v0 rfl rfl)
  have k0 := h0
  have lt0 : ∀ x ∈ p0, x.block < W.heap.size := by obtain ⟨m, hm⟩ := k0; exact DataW.trod_lt m _ _ _ hm
  obtain ⟨b1, rfl⟩ := okWide_string (show Tryz.prog.underlying 9 = some .string by kernel_rfl) (hval 1 9 v1 rfl rfl)
  have k1 := h1
  have lt1 : ∀ x ∈ p1, x.block < W.heap.size := by obtain ⟨m, hm⟩ := k1; exact DataW.trod_lt m _ _ _ hm
  have hv : Vars3 W := ⟨Go.Lib.laidMet.reads hL (by simp [Rows.logBackRow]), Go.Lib.laidMet.reads hL (by simp [Rows.logBackRow]), Go.Lib.laidMet.reads hL (by simp [Rows.logBackRow])⟩
  have hb0 : ∃ b0, b0 < W.heap.size := ⟨2, (cell_spot ((pow_tab hv.pow).cell (by kernel_rfl) 0 (by decide))).2⟩
  obtain ⟨fuel0, hf0⟩ := h0
  obtain ⟨e0, hd0, hr0⟩ := trod_one hb0 fuel0 _ _ hf0
  obtain ⟨fuel1, hf1⟩ := h1
  clear hA0 hval0
  refine (logBack_call hv hd0 hr0 (rel_bytes b1)).mono fun e W' ⟨he, bel⟩ => ?_
  subst he
  exact ⟨_, rfl, _, _, _, [], _, [], hW', trodAll_mk1 (shut_bool (show Tryz.prog.underlying 4 = some .bool by kernel_rfl) _), (trodAll_cons_mk (Below.trod j1 (by kernel_rfl) (of_decide_eq_true (by kernel_rfl)) k0 bel lt0) (trodAll_cons_mk (Below.trod j1 (by kernel_rfl) (of_decide_eq_true (by kernel_rfl)) k1 bel lt1) trodAll_mk0)), rfl, bel.frame _, fun h => by cases h⟩
theorem logBack_row : Rows.LogBackSaid :=
  OpenClaim.holds_of_wide 6 Tryz.f6 rfl rfl rfl rfl rfl rfl rfl ⟨rfl, rfl, rfl, rfl, rfl⟩ rfl rfl rfl rfl rfl fNamed Tryz.func6 fJoined
    fInst fWrap
    (fun os started H enc _ => logBack_lifted os started H enc)
end
end Go.Abs
