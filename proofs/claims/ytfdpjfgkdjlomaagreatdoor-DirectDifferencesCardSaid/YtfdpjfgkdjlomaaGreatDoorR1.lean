/- A part of the proof of DirectDifferences: see the last text of this claim. -/
import Derived.Test.YtfdpjfgkdjlomaaGreatDoorRows
import Derived.Lay
import Derived.LaidLaws
namespace Go.Abs
noncomputable section
open Go Go.Proofs Go.Proofs.YtfdpjfgkdjlomaaGreatDoor
/-! ## Which type is *errors.errorString: by its words, without the count of like names -/
def nmB (P : Program) (u : TypeId) (s : String) : Bool := match P.info? u with
  | some i => (match i.desc with | .named n _ => n == s | .pointer _ => true | .bool => i.str == s | .int _ => i.str == s | .float _ => i.str == s | .string => i.str == s | _ => false)
  | none => false
def ptI (P : Program) (i : TypeInfo) (s s' : String) : Bool := match i.desc with | .named n _ => n == s | .pointer e => nmB P e s' | .bool => i.str == s | .int _ => i.str == s | .float _ => i.str == s | .string => i.str == s | _ => false
theorem nmB_of {P : Program} {d : Nat} {u : TypeId} {s : String} (h : P.typeName? (d + 1) u = some s) : nmB P u s = true := by
  unfold Program.typeName? at h
  unfold nmB
  split at h
  · rename_i i hi
    simp only [hi]
    split at h <;> rename_i hd <;> simp only [hd]
    · split at h
      · cases h; simp
      · cases h
    · split at h
      · cases h
      · cases h; simp
    · split at h
      · cases h
      · cases h; simp
    · split at h
      · cases h
      · cases h; simp
    · split at h
      · cases h
      · cases h; simp
    · cases h
  · cases h
theorem ptI_of {P : Program} {d : Nat} {u : TypeId} {s' : String} (h : P.typeName? (d + 2) u = some ("*" ++ s')) : ∃ i, P.info? u = some i ∧ ptI P i ("*" ++ s') s' = true := by
  unfold Program.typeName? at h
  split at h
  · rename_i i hi
    refine ⟨i, hi, ?_⟩
    unfold ptI
    split at h <;> rename_i hd <;> simp only [hd]
    · split at h
      · have := Option.some.inj h; simp [this]
      · cases h
    · rw [Option.map_eq_some_iff] at h
      obtain ⟨x, h1, h2⟩ := h
      obtain rfl := star_append_inj h2
      exact nmB_of h1
    · split at h
      · cases h
      · have := Option.some.inj h; simp [this]
    · split at h
      · cases h
      · have := Option.some.inj h; simp [this]
    · split at h
      · cases h
      · have := Option.some.inj h; simp [this]
    · split at h
      · cases h
      · have := Option.some.inj h; simp [this]
    · cases h
  · cases h
/-- the first type of that name -/
theorem find_ptr {P : Program} {K : Nat} {s' : String} (h0 : (P.typeName? 3 K == some ("*" ++ s')) = true) (hK : Nat.ble (Nat.succ K) P.types.size = true) (hall : ((P.types.toList.take K).all fun i => !(ptI P i ("*" ++ s') s')) = true) : ((List.range P.types.size).find? fun u => P.typeName? 3 u == some ("*" ++ s')) = some K := by
  have hK := Nat.le_of_ble_eq_true hK
  rw [List.find?_range_eq_some]
  refine ⟨h0, List.mem_range.2 hK, fun u hu => ?_⟩
  cases hb : (P.typeName? 3 u == some ("*" ++ s')) with
  | false => rfl
  | true =>
    obtain ⟨i, hi, hp⟩ := ptI_of (d := 1) (eq_of_beq hb)
    unfold Tables.info? at hi
    have hlt : u < P.types.size := Nat.lt_trans hu hK
    rw [if_pos hlt] at hi
    have hm : i ∈ P.types.toList.take K := by
      rw [← Array.getElem?_toList] at hi
      refine List.mem_of_getElem? (i := u) ?_
      rw [List.getElem?_take, if_pos hu]
      exact hi
    have := List.all_eq_true.1 hall i hm
    rw [hp] at this
    cases this
theorem err_find : ((List.range Tryz.prog.types.size).find? fun u => Tryz.prog.typeName? 3 u == some ("*" ++ "errors.errorString")) = some 742 := find_ptr (by kernel_rfl) (by kernel_rfl) (by kernel_rfl)
end
end Go.Abs
