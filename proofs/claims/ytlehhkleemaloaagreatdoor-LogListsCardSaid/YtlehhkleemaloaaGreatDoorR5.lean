/- A part of the proof of LogLists: see the last text of this claim. -/
import Derived.Test.YtlehhkleemaloaaGreatDoorR3
import Derived.Test.YtlehhkleemaloaaGreatDoorR4
namespace Go.Abs
noncomputable section
open Go Go.Proofs Go.Proofs.YtlehhkleemaloaaGreatDoor
open Go.ChangeShapes Go.WideShapes Go.ChangeAt Go.RowKit

set_option maxRecDepth 100000 in
theorem logLists_lifted (os : Os) (started : os.Started) (H : Type) (enc : TypeId × Value → H) :
    ReturnsInHanded {} Tryz.checked os 3 .any (fun w args => (Rows.logListsSpec.pre enc Tryz.prog Tryz.f3 [] false w args ∧ laidMet Tryz.prog Rows.logListsRow.laid w) ∧ sizedMet enc Tryz.prog Tryz.f3 (OpenSpec.ofChange Rows.logListsSpec) false w args)
      (Rows.logListsSpec.post enc Tryz.prog Tryz.f3 false true false false) := by
  refine returnsInHanded_of_change_and (C := Tryz.checked) (X := fun w _ => laidMet Tryz.prog Rows.logListsRow.laid w) (fun _ _ _ hh h => laidMet.of_heap hh h) ownK started fNoInit Tryz.func3
    (ChangeSpec.witness_at (enc := enc) (C := Tryz.checked) (os := os) (X := fun w _ => laidMet Tryz.prog Rows.logListsRow.laid w) false (World.laidAll Tryz.prog os Rows.logListsRow.laid) argsT 8 (World.laidAll_os _ _ _) (fVars os) (fHeap os) (fOk os) (fPre os) (fSized os)
      (laidMet_laidAll _ (fFits os) (fIfaces os))) ?_
  intro W base args ds gs before hval0 hW _ _ hL _
  have hval : ∀ (j : Nat) t v, Tryz.f3.params[j]? = some t → args[j]? = some v → Value.okWide Tryz.prog W .any base t v := hval0
  have hW' := hW
  obtain ⟨p, q, hA0, hV, rfl, hfz, hnd⟩ := hW
  have hA : DataW.TrodAll enc Tryz.prog W 0 (fun _ => true) true Tryz.f3.params.toList args.toList ds p := hA0
  rw [Tryz.params3] at hA hval
  obtain ⟨v0, vs0, d0, ds0, p0, q0, hargs, rfl, rfl, h0, r0⟩ := trodAll_cons hA
  obtain ⟨rfl, rfl, rfl⟩ := trodAll_nil r0
  obtain rfl : args = #[v0] := by cases args; simp_all
  obtain ⟨rfl, rfl⟩ := trodVars_none hV
  obtain ⟨a0, len0, cap0, rfl⟩ := okWide_slice (show Tryz.prog.underlying 22 = some (.slice 37) by kernel_rfl) (hval 0 22 v0 rfl rfl)
  have k0 := h0
  have lt0 : ∀ x ∈ p0, x.block < W.heap.size := by obtain ⟨m, hm⟩ := k0; exact DataW.trod_lt m _ _ _ hm
  have hv : Go.Lib.VarReads Tryz.prog W "internal/strconv.uint64pow10" Rows.laid_internal_strconv_uint64pow10 := Go.Lib.laidMet.reads hL (by simp [Rows.logListsRow])
  have hb0 : ∃ b0, b0 < W.heap.size := ⟨2, (cell_spot ((pow_tab hv).cell (by kernel_rfl) 0 (by decide))).2⟩
  obtain ⟨fuel, hf⟩ := h0
  obtain ⟨nn, l, hl, hd, hr⟩ := trod_evs hb0 fuel _ _ hf
  clear hA0 hval0
  refine (logLists_call hv hd hl hr).mono fun e W' ⟨he, bel⟩ => ?_
  subst he
  exact ⟨_, rfl, _, _, _, [], _, [], hW', trodAll_mk1 (shut_bool (show Tryz.prog.underlying 4 = some .bool by kernel_rfl) _), (trodAll_cons_mk (Below.trod j1 (by kernel_rfl) (of_decide_eq_true (by kernel_rfl)) k0 bel lt0) trodAll_mk0), rfl, bel.frame _, fun h => by cases h⟩
theorem logLists_row : Rows.LogListsSaid :=
  OpenClaim.holds_of_wide 3 Tryz.f3 rfl rfl rfl rfl rfl rfl rfl ⟨rfl, rfl, rfl, rfl, rfl⟩ rfl rfl rfl rfl rfl fNamed Tryz.func3 fJoined
    fInst fWrap
    (fun os started H enc _ => logLists_lifted os started H enc)
end
end Go.Abs
