/- A part of the proofs of the laws of logs: see the last text of this claim. -/
import Derived.Test.YtlehhkleemaloaaGreatDoorR3
import Derived.Test.YtlehhkleemaloaaGreatDoorR4
namespace Go.Abs
noncomputable section
open Go Go.Proofs Go.Proofs.YtlehhkleemaloaaGreatDoor
open Go.ChangeShapes Go.WideShapes Go.ChangeAt Go.RowKit
set_option maxRecDepth 100000 in
theorem logReads_lifted (os : Os) (started : os.Started) (H : Type) (enc : TypeId × Value → H) :
    ReturnsInHanded {} Tryz.checked os 7 .any (fun w args => (Rows.logReadsSpec.pre enc Tryz.prog Tryz.f7 [] false w args ∧ laidMet Tryz.prog Rows.logReadsRow.laid w) ∧ sizedMet enc Tryz.prog Tryz.f7 (OpenSpec.ofChange Rows.logReadsSpec) false w args)
      (Rows.logReadsSpec.post enc Tryz.prog Tryz.f7 false true false false) := by
  refine returnsInHanded_of_change_and (C := Tryz.checked) (X := fun w _ => laidMet Tryz.prog Rows.logReadsRow.laid w) (fun _ _ _ hh h => laidMet.of_heap hh h) ownK started fNoInit Tryz.func7
    (ChangeSpec.witness_at (enc := enc) (C := Tryz.checked) (os := os) (X := fun w _ => laidMet Tryz.prog Rows.logReadsRow.laid w) false (World.laidAll Tryz.prog os Rows.logReadsRow.laid) argsT 8 (World.laidAll_os _ _ _) (fVars os) (fHeap os) (fOk os) (fPre os) (fSized os)
      (laidMet_laidAll _ (fFits os) (fIfaces os))) ?_
  intro W base args ds gs before hval0 hW _ hwt hL _
  have hval : ∀ (j : Nat) t v, Tryz.f7.params[j]? = some t → args[j]? = some v → Value.okWide Tryz.prog W .any base t v := hval0
  have hW' := hW
  obtain ⟨p, q, hA0, hV, rfl, hfz, hnd⟩ := hW
  have hA : DataW.TrodAll enc Tryz.prog W 0 (fun _ => true) true Tryz.f7.params.toList args.toList ds p := hA0
  rw [Tryz.params7] at hA hval
  obtain ⟨v0, vs0, d0, ds0, p0, q0, hargs, rfl, rfl, h0, r0⟩ := trodAll_cons hA
  obtain ⟨rfl, rfl, rfl⟩ := trodAll_nil r0
  obtain rfl : args = #[v0] := by cases args; simp_all
  obtain ⟨rfl, rfl⟩ := trodVars_none hV
  obtain ⟨a0, len0, cap0, rfl⟩ := okWide_slice (show Tryz.prog.underlying 29 = some (.slice 9) by kernel_rfl) (hval 0 29 v0 rfl rfl)
  have k0 := h0
  have lt0 : ∀ x ∈ p0, x.block < W.heap.size := by obtain ⟨m, hm⟩ := k0; exact DataW.trod_lt m _ _ _ hm
  have hv : Vars3 W := ⟨Go.Lib.laidMet.reads hL (by simp [Rows.logReadsRow]), Go.Lib.laidMet.reads hL (by simp [Rows.logReadsRow]), Go.Lib.laidMet.reads hL (by simp [Rows.logReadsRow])⟩
  have hb0 : ∃ b0, b0 < W.heap.size := ⟨2, (cell_spot ((pow_tab hv.pow).cell (by kernel_rfl) 0 (by decide))).2⟩
  obtain ⟨fuel0, hf0⟩ := h0
  have hw0 : (DataW.weights Tryz.prog 29 d0).all (· ≤ reachBytes) = true := by
    have h9 := hwt
    rw [Tryz.params7] at h9
    have h9 : (DataW.weights Tryz.prog 29 d0 ++ _).all (· ≤ reachBytes) = true := h9
    rw [List.all_append, Bool.and_eq_true] at h9
    exact h9.1
  obtain ⟨nn0, l0, hl0, hr0⟩ := trod_txs hb0 fuel0 _ _ hf0
  clear hA0 hval0
  refine (logReads_call hv ⟨hl0, Nat.le_trans (Nat.mul_le_mul_right _ (txs_cnt hr0)) (trod_room hf0 hw0)⟩ hr0).mono fun e W' ⟨he, bel⟩ => ?_
  subst he
  exact ⟨_, rfl, _, _, _, [], _, [], hW', trodAll_mk1 (shut_bool (show Tryz.prog.underlying 4 = some .bool by kernel_rfl) _), (trodAll_cons_mk (Below.trod j1 (by kernel_rfl) (of_decide_eq_true (by kernel_rfl)) k0 bel lt0) trodAll_mk0), rfl, bel.frame _, fun h => by cases h⟩
theorem logReads_row : Rows.LogReadsSaid :=
  OpenClaim.holds_of_wide 7 Tryz.f7 rfl rfl rfl rfl rfl rfl rfl ⟨rfl, rfl, rfl, rfl, rfl⟩ rfl rfl rfl rfl rfl fNamed Tryz.func7 fJoined
    fInst fWrap
    (fun os started H enc _ => logReads_lifted os started H enc)
end
end Go.Abs
