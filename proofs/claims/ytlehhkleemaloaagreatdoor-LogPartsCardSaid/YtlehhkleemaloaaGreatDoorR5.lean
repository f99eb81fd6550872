/- A part of the proof of LogParts: see the last text of this claim. -/
import Derived.Test.YtlehhkleemaloaaGreatDoorR3
import Derived.Test.YtlehhkleemaloaaGreatDoorR4
namespace Go.Abs
noncomputable section
open Go Go.Proofs Go.Proofs.YtlehhkleemaloaaGreatDoor
open Go.ChangeShapes Go.WideShapes Go.ChangeAt Go.RowKit

set_option maxRecDepth 100000 in
theorem logParts_lifted (os : Os) (started : os.Started) (H : Type) (enc : TypeId × Value → H) :
    ReturnsInHanded {} Tryz.checked os 4 .any (fun w args => (Rows.logPartsSpec.pre enc Tryz.prog Tryz.f4 [] false w args ∧ laidMet Tryz.prog Rows.logPartsRow.laid w) ∧ sizedMet enc Tryz.prog Tryz.f4 (OpenSpec.ofChange Rows.logPartsSpec) false w args)
      (Rows.logPartsSpec.post enc Tryz.prog Tryz.f4 false true false false) := by
  refine returnsInHanded_of_change_and (C := Tryz.checked) (X := fun w _ => laidMet Tryz.prog Rows.logPartsRow.laid w) (fun _ _ _ hh h => laidMet.of_heap hh h) ownK started fNoInit Tryz.func4
    (ChangeSpec.witness_at (enc := enc) (C := Tryz.checked) (os := os) (X := fun w _ => laidMet Tryz.prog Rows.logPartsRow.laid w) false (World.laidAll Tryz.prog os Rows.logPartsRow.laid) argsT 8 (World.laidAll_os _ _ _) (fVars os) (fHeap os) (fOk os) (fPre os) (fSized os)
      (laidMet_laidAll _ (fFits os) (fIfaces os))) ?_
  intro W base args ds gs before hval0 hW _ _ hL _
  have hval : ∀ (j : Nat) t v, Tryz.f4.params[j]? = some t → args[j]? = some v → Value.okWide Tryz.prog W .any base t v := hval0
  have hW' := hW
  obtain ⟨p, q, hA0, hV, rfl, hfz, hnd⟩ := hW
  have hA : DataW.TrodAll enc Tryz.prog W 0 (fun _ => true) true Tryz.f4.params.toList args.toList ds p := hA0
  rw [Tryz.params4] at hA hval
  obtain ⟨v0, vs0, d0, ds0, p0, q0, hargs, rfl, rfl, h0, r0⟩ := trodAll_cons hA
  obtain ⟨v1, vs1, d1, ds1, p1, q1, rfl, rfl, rfl, h1, r1⟩ := trodAll_cons r0
  obtain ⟨rfl, rfl, rfl⟩ := trodAll_nil r1
  obtain rfl : args = #[v0, v1] := by cases args; simp_all
  obtain ⟨rfl, rfl⟩ := trodVars_none hV
  obtain ⟨a0, len0, cap0, rfl⟩ := okWide_slice (show Tryz.prog.underlying 22 = some (.slice 37) by kernel_rfl) (hval 0 22 v0 rfl rfl)
  obtain ⟨c, rfl, rfl, rfl, w1⟩ := open_int (show Tryz.prog.underlying 3 = some (.int .i64) by kernel_rfl) (hval 1 3 v1 rfl rfl) h1
  have k0 := h0
  have lt0 : ∀ x ∈ p0, x.block < W.heap.size := by obtain ⟨m, hm⟩ := k0; exact DataW.trod_lt m _ _ _ hm
  have hv : Go.Lib.VarReads Tryz.prog W "internal/strconv.uint64pow10" Rows.laid_internal_strconv_uint64pow10 := Go.Lib.laidMet.reads hL (by simp [Rows.logPartsRow])
  have hb0 : ∃ b0, b0 < W.heap.size := ⟨2, (cell_spot ((pow_tab hv).cell (by kernel_rfl) 0 (by decide))).2⟩
  obtain ⟨fuel, hf⟩ := h0
  obtain ⟨nn, l, hl, hd, hr⟩ := trod_evs hb0 fuel _ _ hf
  clear hA0 hval0
  refine (logParts_call (c := c) hv hd hl hr).mono fun e W' ⟨he, bel⟩ => ?_
  subst he
  exact ⟨_, rfl, _, _, _, [], _, [], hW', trodAll_mk1 (shut_bool (show Tryz.prog.underlying 4 = some .bool by kernel_rfl) _), (trodAll_cons_mk (Below.trod j1 (by kernel_rfl) (of_decide_eq_true (by kernel_rfl)) k0 bel lt0) (trodAll_cons_mk (shut_int (show Tryz.prog.underlying 3 = some (.int .i64) by kernel_rfl) w1) trodAll_mk0)), rfl, bel.frame _, fun h => by cases h⟩
theorem logParts_row : Rows.LogPartsSaid :=
  OpenClaim.holds_of_wide 4 Tryz.f4 rfl rfl rfl rfl rfl rfl rfl ⟨rfl, rfl, rfl, rfl, rfl⟩ rfl rfl rfl rfl rfl fNamed Tryz.func4 fJoined
    fInst fWrap
    (fun os started H enc _ => logParts_lifted os started H enc)
end
end Go.Abs
