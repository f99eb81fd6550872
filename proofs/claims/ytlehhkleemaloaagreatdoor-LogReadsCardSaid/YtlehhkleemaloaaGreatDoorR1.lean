/- A part of the proofs of the laws of logs: see the last text of this claim. -/
import Derived.Test.YtlehhkleemaloaaGreatDoorRows
import Derived.Lib.LaidU8
import Derived.Lib.LaidTab
import Derived.Lay
import Derived.Handed
import Derived.WalkKit
import Derived.ProofKit
import Derived.OpenShut
import Derived.ShutString
import Derived.ChangeOld
import Derived.Below
import Derived.Carry
import Derived.LaidLaws
import Derived.Test.YtlehhkleemaloaaGreatDoorB6
import Derived.Test.YtlehhkleemaloaaGreatDoorK2
import Derived.Test.YtlehhkleemaloaaGreatDoorR0
namespace Go.Abs
noncomputable section
open Go Go.Proofs Go.Proofs.YtlehhkleemaloaaGreatDoor
open Go.ChangeShapes Go.WideShapes Go.ChangeAt Go.RowKit
/-! ## From what is listed of the library's table to what the interpreter asks -/
def powZ : List Int := [1, 10, 100, 1000, 10000, 100000, 1000000, 10000000, 100000000, 1000000000, 10000000000, 100000000000, 1000000000000, 10000000000000, 100000000000000, 1000000000000000, 10000000000000000, 100000000000000000, 1000000000000000000, 10000000000000000000]
theorem rel1' {w : World} (m : Int) {ls : List AV} {vs : List Value} (r : RelL w (allF w) ls Map.none vs) : RelL w (allF w) (.int .u64 m :: ls) Map.none (.int .u64 m :: vs) := rel1 (by unfold Rel; rfl) r
theorem pow_tab {W : World} (h : Go.Lib.VarReads Tryz.prog W "internal/strconv.uint64pow10" Rows.laid_internal_strconv_uint64pow10) : Go.Lib.TabIs Tryz.prog W "internal/strconv.uint64pow10" .u64 powZ := by
  obtain ⟨g, t, cs, fuel, p, hg, ht, hv, hd⟩ := h
  have hg2 : Tryz.prog.globalNamed "internal/strconv.uint64pow10" = some 2 := by kernel_rfl
  obtain rfl := Option.some.inj (hg2.symm.trans hg)
  have ht2 : (Tryz.prog.globals[2]?).map (·.type) = some 353 := by kernel_rfl
  obtain rfl := Option.some.inj (ht2.symm.trans ht)
  unfold Go.Lib.TabIs
  have e := Go.Lib.cells_of_tab (t := 353) (e := 270) (n := 20) (k := .u64) (zs := powZ) (by kernel_rfl) (by kernel_rfl) (by kernel_rfl) (by kernel_rfl) hd
  rw [hv, ← e]
/-! ### the two errors of strconv -/
noncomputable def ms133 : Array (String × TypeId) := match Tryz.prog.underlying 133 with | some (.interface m) => m | _ => #[]
theorem und133 : Tryz.prog.underlying 133 = some (.interface ms133) := by kernel_rfl
theorem err_cell {W : World} {n : String} {g : Nat} {d : DataW Unit} (hn : Tryz.prog.globalNamed n = some g) (ht : (Tryz.prog.globals[g]?).map (·.type) = some 133) (h : Go.Lib.VarReads Tryz.prog W n (.iface ("*" ++ "errors.errorString") d)) : ∃ v, W.cell? ⟨g, 0, none⟩ = some (.iface 349 v) ∧ g < W.heap.size := by
  obtain ⟨g', t, cs, fuel, p, hg, ht', hv, hd⟩ := h
  obtain rfl := Option.some.inj (hn.symm.trans hg)
  obtain rfl := Option.some.inj (ht.symm.trans ht')
  obtain ⟨_, u, v, hcs, hname, _⟩ := iface_of_trod und133 hd
  obtain rfl := err_type u hname
  unfold World.var? at hv
  rw [hn] at hv
  simp only [Option.bind_some] at hv
  split at hv
  · rename_i cells el fr hc
    cases hv
    have hlt : g < W.heap.size := (Array.getElem?_eq_some_iff.1 hc).1
    have h0 : cs[0]? = some (.iface 349 v) := by rw [← Array.getElem?_toList, hcs]; rfl
    refine ⟨v, ?_, hlt⟩
    unfold World.cell?
    simp only [hc]
    exact h0
  · cases hv
/-- what is listed of the library's variables -/
structure Vars3 (W : World) : Prop where
  pow : Go.Lib.VarReads Tryz.prog W "internal/strconv.uint64pow10" Rows.laid_internal_strconv_uint64pow10
  syn : Go.Lib.VarReads Tryz.prog W "strconv.ErrSyntax" Rows.laid_strconv_ErrSyntax
  ran : Go.Lib.VarReads Tryz.prog W "strconv.ErrRange" Rows.laid_strconv_ErrRange
theorem rel_errv {W : World} {g : Nat} {v : Value} (hc : W.cell? ⟨g, 0, none⟩ = some (.iface 349 v)) (hg : g < W.heap.size) : Rel W (allF W) (.ptrR [.ifc 349 .dead] 0) Map.none (.pointer (some ⟨g, 0, none⟩)) := by
  unfold Rel
  refine ⟨g, 0, hg, rfl, ?_⟩
  unfold RelC
  refine ⟨⟨_, hc, rfl, ?_⟩, ?_⟩
  · unfold Rel
    exact ⟨_, rfl, by unfold Rel; trivial⟩
  · unfold RelC; trivial
theorem grel {W : World} (h3 : Vars3 W) (K : Nat) : GRel (Cg K) W (allF W) := by
  have h := h3.pow
  have hg2 : Tryz.prog.globalNamed "internal/strconv.uint64pow10" = some 2 := by kernel_rfl
  have T := pow_tab h
  refine ⟨fun g => ?_, fun g vs e => ?_⟩
  rotate_left
  · have e : gobjG g = some vs := e
    unfold gobjG at e
    cases hb : Nat.beq g 2 with
    | false => rw [hb] at e; cases e
    | true =>
      have : g = 2 := Nat.eq_of_beq_eq_true hb
      subst this
      rw [hb] at e
      have e : powV = vs := Option.some.inj e
      subst e
      refine ⟨(cell_spot (T.cell hg2 0 (by decide))).2, ?_⟩
      have hz : (powZ.map fun z => Value.int .u64 z) = powV := by kernel_rfl
      unfold Go.Lib.TabIs World.var? at T
      rw [hg2, hz] at T
      simp only [Option.bind_some] at T
      split at T
      · rename_i cs el fr hc
        cases T
        exact ⟨el, fr, hc⟩
      · cases T
  have hglob : (Cg K).glob g = bif Nat.beq g 2 then .ptrR pow10s 0 else bif Nat.ble g 1 then .ptrR [.ifc 349 .dead] 0 else .dead := rfl
  rw [hglob]
  cases hb : Nat.beq g 2 with
  | false =>
    simp only [cond_false]
    cases h1 : Nat.ble g 1 with
    | false => simp only [cond_false]; unfold Rel; trivial
    | true =>
      simp only [cond_true]
      have hg1 : g ≤ 1 := Nat.le_of_ble_eq_true h1
      have e1 := err_cell (n := "strconv.ErrSyntax") (g := 0) (by kernel_rfl) (by kernel_rfl) h3.syn
      have e2 := err_cell (n := "strconv.ErrRange") (g := 1) (by kernel_rfl) (by kernel_rfl) h3.ran
      have hg2 : g = 0 ∨ g = 1 := by omega
      rcases hg2 with rfl | rfl
      · obtain ⟨v, hc, hl⟩ := e1; exact rel_errv hc hl
      · obtain ⟨v, hc, hl⟩ := e2; exact rel_errv hc hl
  | true =>
    have : g = 2 := Nat.eq_of_beq_eq_true hb
    subst this
    simp only [cond_true]
    unfold Rel
    have c0 := T.cell hg2 0 (by decide)
    refine ⟨2, 0, (cell_spot c0).2, rfl, ?_⟩
    refine relC_ofL _ ((powZ.take 11).map fun z => Value.int .u64 z) 2 0 ?_ fun i x hx => ?_
    · exact rel1' _ (rel1' _ (rel1' _ (rel1' _ (rel1' _ (rel1' _ (rel1' _ (rel1' _ (rel1' _ (rel1' _ (rel1' _ rel0))))))))))
    · have hi : i < 11 := by have := (List.getElem?_eq_some_iff.1 hx).1; simpa [powZ] using this
      have c := T.cell hg2 i (by have : powZ.length = 20 := rfl; omega)
      rw [Nat.zero_add]
      have e : x = .int .u64 (powZ.getD i 0) := by
        rw [List.getElem?_map, List.getElem?_take, if_pos hi] at hx
        have hl : i < powZ.length := by have : powZ.length = 20 := rfl; omega
        rw [List.getElem?_eq_getElem hl] at hx
        rw [List.getD_eq_getElem?_getD, List.getElem?_eq_getElem hl]
        exact (Option.some.inj hx).symm
      subst e
      exact ⟨c, rfl⟩
end
end Go.Abs
