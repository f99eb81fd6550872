/- A part of the proof of LogLists: see the last text of this claim. -/
import Derived.Test.YtlehhkleemaloaaGreatDoorRows
import Derived.Lib.LaidU8
import Derived.Lib.LaidTab
import Derived.Lay
import Derived.Handed
import Derived.WalkKit
import Derived.ProofKit
import Derived.OpenShut
import Derived.ShutString
import Derived.ChangeOld
import Derived.Below
import Derived.Carry
import Derived.Test.YtlehhkleemaloaaGreatDoorB6
import Derived.Test.YtlehhkleemaloaaGreatDoorK1
namespace Go.Abs
noncomputable section
open Go Go.Proofs Go.Proofs.YtlehhkleemaloaaGreatDoor
open Go.ChangeShapes Go.WideShapes Go.ChangeAt Go.RowKit

/-! ## From what is listed of the library's table to what the interpreter asks -/
def powZ : List Int := [1, 10, 100, 1000, 10000, 100000, 1000000, 10000000, 100000000, 1000000000, 10000000000, 100000000000, 1000000000000, 10000000000000, 100000000000000, 1000000000000000, 10000000000000000, 100000000000000000, 1000000000000000000, 10000000000000000000]
theorem rel1' {w : World} (m : Int) {ls : List AV} {vs : List Value} (r : RelL w (allF w) ls Map.none vs) : RelL w (allF w) (.int .u64 m :: ls) Map.none (.int .u64 m :: vs) := rel1 (by unfold Rel; rfl) r
theorem pow_tab {W : World} (h : Go.Lib.VarReads Tryz.prog W "internal/strconv.uint64pow10" Rows.laid_internal_strconv_uint64pow10) : Go.Lib.TabIs Tryz.prog W "internal/strconv.uint64pow10" .u64 powZ := by
  obtain ⟨g, t, cs, fuel, p, hg, ht, hv, hd⟩ := h
  have hg2 : Tryz.prog.globalNamed "internal/strconv.uint64pow10" = some 2 := by kernel_rfl
  obtain rfl := Option.some.inj (hg2.symm.trans hg)
  have ht2 : (Tryz.prog.globals[2]?).map (·.type) = some 353 := by kernel_rfl
  obtain rfl := Option.some.inj (ht2.symm.trans ht)
  unfold Go.Lib.TabIs
  have e := Go.Lib.cells_of_tab (t := 353) (e := 270) (n := 20) (k := .u64) (zs := powZ) (by kernel_rfl) (by kernel_rfl) (by kernel_rfl) (by kernel_rfl) hd
  rw [hv, ← e]
theorem grel {W : World} (h : Go.Lib.VarReads Tryz.prog W "internal/strconv.uint64pow10" Rows.laid_internal_strconv_uint64pow10) (K : Nat) : GRel (Cg K) W (allF W) := by
  have hg2 : Tryz.prog.globalNamed "internal/strconv.uint64pow10" = some 2 := by kernel_rfl
  have T := pow_tab h
  refine ⟨fun g => ?_, fun g vs e => ?_⟩
  rotate_left
  · have e : gobjG g = some vs := e
    unfold gobjG at e
    cases hb : Nat.beq g 2 with
    | false => rw [hb] at e; cases e
    | true =>
      have : g = 2 := Nat.eq_of_beq_eq_true hb
      subst this
      rw [hb] at e
      have e : powV = vs := Option.some.inj e
      subst e
      refine ⟨(cell_spot (T.cell hg2 0 (by decide))).2, ?_⟩
      have hz : (powZ.map fun z => Value.int .u64 z) = powV := by kernel_rfl
      unfold Go.Lib.TabIs World.var? at T
      rw [hg2, hz] at T
      simp only [Option.bind_some] at T
      split at T
      · rename_i cs el fr hc
        cases T
        exact ⟨el, fr, hc⟩
      · cases T
  have hglob : (Cg K).glob g = bif Nat.beq g 2 then .ptrR pow10s 0 else .dead := rfl
  rw [hglob]
  cases hb : Nat.beq g 2 with
  | false => simp only [cond_false]; unfold Rel; trivial
  | true =>
    have : g = 2 := Nat.eq_of_beq_eq_true hb
    subst this
    simp only [cond_true]
    unfold Rel
    have c0 := T.cell hg2 0 (by decide)
    refine ⟨2, 0, (cell_spot c0).2, rfl, ?_⟩
    refine relC_ofL _ ((powZ.take 11).map fun z => Value.int .u64 z) 2 0 ?_ fun i x hx => ?_
    · exact rel1' _ (rel1' _ (rel1' _ (rel1' _ (rel1' _ (rel1' _ (rel1' _ (rel1' _ (rel1' _ (rel1' _ (rel1' _ rel0))))))))))
    · have hi : i < 11 := by have := (List.getElem?_eq_some_iff.1 hx).1; simpa [powZ] using this
      have c := T.cell hg2 i (by have : powZ.length = 20 := rfl; omega)
      rw [Nat.zero_add]
      have e : x = .int .u64 (powZ.getD i 0) := by
        rw [List.getElem?_map, List.getElem?_take, if_pos hi] at hx
        have hl : i < powZ.length := by have : powZ.length = 20 := rfl; omega
        rw [List.getElem?_eq_getElem hl] at hx
        rw [List.getD_eq_getElem?_getD, List.getElem?_eq_getElem hl]
        exact (Option.some.inj hx).symm
      subst e
      exact ⟨c, rfl⟩
end
end Go.Abs
