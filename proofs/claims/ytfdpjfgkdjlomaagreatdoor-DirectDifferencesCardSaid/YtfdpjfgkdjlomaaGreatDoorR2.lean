/- A part of the proof of DirectDifferences: see the last text of this claim. -/
import Derived.Handed
import Derived.WalkKit
import Derived.ProofKit
import Derived.OpenShut
import Derived.ShutString
import Derived.ChangeOld
import Derived.Below
import Derived.Carry
import Derived.Test.YtfdpjfgkdjlomaaGreatDoorR1
namespace Go.Abs
noncomputable section
open Go Go.Proofs Go.Proofs.YtfdpjfgkdjlomaaGreatDoor
open Go.ChangeShapes Go.WideShapes Go.ChangeAt Go.RowKit
/-! ## The listed variables laid: what the kit's function makes, told once -/
noncomputable abbrev laidL : List (String × DataW Unit) := Rows.directDifferencesRow.laid
noncomputable def hold (os : Os) : World := World.holding Tryz.prog os ⟨#[], #[], []⟩
theorem hold_size (os : Os) : (hold os).heap.size = 13 := by kernel_rfl
theorem star_name : ("*" ++ "errors.errorString" : String) = "*errors.errorString" := by kernel_rfl
theorem err_find' : ((List.range Tryz.prog.types.size).find? fun u => Tryz.prog.typeName? 3 u == some "*errors.errorString") = some 742 := by
  have h := err_find
  rw [star_name] at h
  exact h
noncomputable def ms641 : Array (String × TypeId) := match Tryz.prog.underlying 641 with | some (.interface m) => m | _ => #[]
theorem und641 : Tryz.prog.underlying 641 = some (.interface ms641) := by kernel_rfl
/-- an interface value's cell and blocks -/
theorem lay_ifaceP {P : Program} {t u n : Nat} {name : String} {ms : Array (String × TypeId)} {d : DataW Unit} {x : List Value × List Obj} {v : Value} (hu : P.underlying t = some (.interface ms)) (hf : ((List.range P.types.size).find? fun u => P.typeName? 3 u == some name) = some u) (h1 : d.lay P u n = some x) (h2 : Lay.pack P u x.1 = some v) : (DataW.iface name d).lay P t n = some ([.iface u v], x.2) := by
  unfold DataW.lay
  rw [hu, hf]
  simp only [h1, h2]
theorem lay_iface {n : Nat} {d : DataW Unit} {x : List Value × List Obj} {v : Value} (h1 : d.lay Tryz.prog 742 n = some x) (h2 : Lay.pack Tryz.prog 742 x.1 = some v) : (DataW.iface "*errors.errorString" d).lay Tryz.prog 641 n = some ([.iface 742 v], x.2) := lay_ifaceP und641 err_find' h1 h2
noncomputable def layD (d : DataW Unit) (t n : Nat) : List Value × List Obj := (d.lay Tryz.prog t n).getD ([], [])
theorem layD_ok {d : DataW Unit} {t n : Nat} (h : (d.lay Tryz.prog t n).isSome = true) : d.lay Tryz.prog t n = some (layD d t n) := by
  unfold layD
  cases hd : d.lay Tryz.prog t n with
  | none => rw [hd] at h; cases h
  | some x => rfl
noncomputable def errD (bs : List UInt8) : DataW Unit := .ptr (.agg [.lit (.string bs)])
theorem ll_cons {n g t : Nat} {x : String × DataW Unit} {r : List (String × DataW Unit)} {y : List Value × List Obj} {z : List (Nat × List Value) × List Obj} (h1 : Tryz.prog.globalNamed x.1 = some g) (h2 : (Tryz.prog.globals[g]?).map (·.type) = some t) (h3 : x.2.lay Tryz.prog t n = some y) (h4 : Lay.layList Tryz.prog (n + y.2.length) r = some z) : Lay.layList Tryz.prog n (x :: r) = some ((g, y.1) :: z.1, y.2 ++ z.2) := by
  unfold Lay.layList
  rw [h1]
  cases hg : Tryz.prog.globals[g]? with
  | none => rw [hg] at h2; cases h2
  | some gl =>
    rw [hg] at h2
    have ht : gl.type = t := Option.some.inj h2
    subst ht
    simp only [hg, h3, h4]
theorem ll_nil {n : Nat} : Lay.layList Tryz.prog n [] = some ([], []) := rfl
/-- the text of the first error, and of the second -/
def bsS : List UInt8 := [105, 110, 118, 97, 108, 105, 100, 32, 115, 121, 110, 116, 97, 120]
def bsR : List UInt8 := [118, 97, 108, 117, 101, 32, 111, 117, 116, 32, 111, 102, 32, 114, 97, 110, 103, 101]
noncomputable def packD (x : List Value × List Obj) : Value := (Lay.pack Tryz.prog 742 x.1).getD .nilIface
noncomputable def yErr (bs : List UInt8) (n : Nat) : List Value × List Obj := ([.iface 742 (packD (layD (errD bs) 742 n))], (layD (errD bs) 742 n).2)
theorem lay_err {bs : List UInt8} {n : Nat} (h1 : ((errD bs).lay Tryz.prog 742 n).isSome = true) (h2 : (Lay.pack Tryz.prog 742 (layD (errD bs) 742 n).1).isSome = true) : (DataW.iface "*errors.errorString" (errD bs)).lay Tryz.prog 641 n = some (yErr bs n) := by
  refine lay_iface (layD_ok h1) ?_
  unfold packD
  cases hd : Lay.pack Tryz.prog 742 (layD (errD bs) 742 n).1 with
  | none => rw [hd] at h2; cases h2
  | some v => rfl
noncomputable def y0 : List Value × List Obj := layD Rows.laid_internal_strconv_uint64pow10 727 (13)
noncomputable def y1 : List Value × List Obj := layD Rows.laid_math_bits_deBruijn32tab 749 ((13) + y0.2.length)
noncomputable def y2 : List Value × List Obj := layD Rows.laid_math_bits_deBruijn64tab 726 (((13) + y0.2.length) + y1.2.length)
noncomputable def y3 : List Value × List Obj := layD Rows.laid_unicode_utf8_first 738 ((((13) + y0.2.length) + y1.2.length) + y2.2.length)
noncomputable def y4 : List Value × List Obj := layD Rows.laid_unicode_utf8_acceptRanges 741 (((((13) + y0.2.length) + y1.2.length) + y2.2.length) + y3.2.length)
noncomputable def y5 : List Value × List Obj := yErr bsS ((((((13) + y0.2.length) + y1.2.length) + y2.2.length) + y3.2.length) + y4.2.length)
noncomputable def y6 : List Value × List Obj := yErr bsR (((((((13) + y0.2.length) + y1.2.length) + y2.2.length) + y3.2.length) + y4.2.length) + y5.2.length)
noncomputable def yK : List (Nat × List Value) × List Obj := ([(2, y0.1), (7, y1.1), (1, y2.1), (5, y3.1), (6, y4.1), (3, y5.1), (4, y6.1)], y0.2 ++ (y1.2 ++ (y2.2 ++ (y3.2 ++ (y4.2 ++ (y5.2 ++ (y6.2 ++ [])))))))
theorem yL0 : ∃ y, Lay.layList Tryz.prog 13 laidL = some y ∧ y = yK := by
  refine ⟨_, ll_cons (g := 2) (t := 727) (by kernel_rfl) (by kernel_rfl) (layD_ok (by kernel_rfl)) <| ll_cons (g := 7) (t := 749) (by kernel_rfl) (by kernel_rfl) (layD_ok (by kernel_rfl)) <| ll_cons (g := 1) (t := 726) (by kernel_rfl) (by kernel_rfl) (layD_ok (by kernel_rfl)) <| ll_cons (g := 5) (t := 738) (by kernel_rfl) (by kernel_rfl) (layD_ok (by kernel_rfl)) <| ll_cons (g := 6) (t := 741) (by kernel_rfl) (by kernel_rfl) (layD_ok (by kernel_rfl)) <| ll_cons (g := 3) (t := 641) (by kernel_rfl) (by kernel_rfl) (lay_err (bs := bsS) (by kernel_rfl) (by kernel_rfl)) <| ll_cons (g := 4) (t := 641) (by kernel_rfl) (by kernel_rfl) (lay_err (bs := bsR) (by kernel_rfl) (by kernel_rfl)) ll_nil, ?_⟩
  kernel_rfl
theorem yL : Lay.layList Tryz.prog 13 laidL = some yK := by
  obtain ⟨y, h1, h2⟩ := yL0
  rw [← h2]; exact h1
/-- the world with what is listed laid, told -/
noncomputable def lU (os : Os) : World := { hold os with heap := ⟨Lay.setRows (hold os).heap.toList yK.1 ++ yK.2⟩ }
theorem layVars_of {P : Program} {w : World} {l : List (String × DataW Unit)} {n : Nat} {y : List (Nat × List Value) × List Obj} (hn : w.heap.size = n) (h : Lay.layList P n l = some y) : w.layVars P l = { w with heap := ⟨Lay.setRows w.heap.toList y.1 ++ y.2⟩ } := by
  subst hn
  unfold World.layVars
  rw [h]
theorem layFits_of {P : Program} {w : World} {l : List (String × DataW Unit)} {B : List Nat} {n : Nat} {y : List (Nat × List Value) × List Obj} (hn : w.heap.size = n) (h : Lay.layList P n l = some y) (hk : (decide (y.1.map (·.1)).Nodup && (y.1.all fun r => Lay.isRow w.heap.toList[r.1]? && !B.contains r.1) && B.all (· < w.heap.size)) = true) : w.layFits P l B = true := by
  subst hn
  unfold World.layFits
  rw [h]
  exact hk
theorem layIfaces_of {P : Program} {w w' : World} {l : List (String × DataW Unit)} {n : Nat} {y : List (Nat × List Value) × List Obj} (hn : w.heap.size = n) (h : Lay.layList P n l = some y) (hk : ((y.1.all fun r => r.2.all (Lay.okV P w')) && y.2.all (Lay.okO P w')) = true) : w.layIfaces P l w' = true := by
  subst hn
  unfold World.layIfaces
  rw [h]
  exact hk
theorem laid_eq (os : Os) : World.laidAll Tryz.prog os laidL = lU os := layVars_of (hold_size os) yL
noncomputable def argsT : Array Value := #[.agg #[.slice none 0 0, .slice none 0 0, .slice none 0 0, .int .i64 0], .agg #[.slice none 0 0, .slice none 0 0, .slice none 0 0, .int .i64 0]]
noncomputable def wT (os : Os) : World := (World.laidAll Tryz.prog os laidL).forCall (fun _ _ => 0) ⟨#[], argsT, []⟩
noncomputable def wU (os : Os) : World := (lU os).forCall (fun _ _ => 0) ⟨#[], argsT, []⟩
theorem wT_eq (os : Os) : wT os = wU os := by unfold wT wU; rw [laid_eq]
theorem fVars (os : Os) : (wT os).variablesB Tryz.checked.prog = true := by rw [wT_eq]; kernel_rfl
theorem fHeap (os : Os) : ((wT os).heap.toList.drop Tryz.checked.prog.globals.size).take ((begin Tryz.checked.prog (fun _ _ => 0) default).world.heap.size - Tryz.checked.prog.globals.size) = (begin Tryz.checked.prog (fun _ _ => 0) default).world.heap.toList.drop Tryz.checked.prog.globals.size := by rw [wT_eq]; kernel_rfl
theorem fOk (os : Os) : Input.okWideB Tryz.checked.prog (wT os) 3 ⟨#[], argsT, []⟩ = true := by rw [wT_eq]; kernel_rfl
theorem fPre (os : Os) {H : Type} {enc : TypeId × Value → H} : Rows.directDifferencesSpec.preB enc Tryz.checked.prog Tryz.f3 [] false (wT os).memory argsT 8 = true := by rw [wT_eq]; kernel_rfl
theorem fSized (os : Os) {H : Type} {enc : TypeId × Value → H} : Rows.directDifferencesSpec.sizedB enc Tryz.checked.prog Tryz.f3 false (wT os).memory argsT 8 = true := by rw [wT_eq]; kernel_rfl
theorem fFits (os : Os) : (World.holding Tryz.prog os ⟨#[], #[], []⟩).layFits Tryz.prog Rows.directDifferencesRow.laid [] = true := layFits_of (hold_size os) yL (by kernel_rfl)
theorem fIfaces (os : Os) : (World.holding Tryz.prog os ⟨#[], #[], []⟩).layIfaces Tryz.prog Rows.directDifferencesRow.laid (World.laidAll Tryz.prog os Rows.directDifferencesRow.laid) = true := by
  have h : (hold os).layIfaces Tryz.prog laidL (lU os) = true := layIfaces_of (hold_size os) yL (by kernel_rfl)
  rw [← laid_eq os] at h
  exact h
end
end Go.Abs
