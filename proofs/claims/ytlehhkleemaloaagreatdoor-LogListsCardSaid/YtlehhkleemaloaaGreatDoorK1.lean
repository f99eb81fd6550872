/- A part of the proof of LogLists: see the last text of this claim. -/
import Derived.Test.YtlehhkleemaloaaGreatDoorK0
import Derived.Test.YtlehhkleemaloaaGreatDoorB3
namespace Go.Abs
noncomputable section
open Go Go.Proofs
def namesOk : List Func → Bool := List.rec true fun fn _ ih => !(fn.name == "runtime.NumGoroutine") && ih
theorem namesOk_mem : ∀ (l : List Func), namesOk l = true → ∀ fn ∈ l, fn.name ≠ "runtime.NumGoroutine"
  | [], _, fn, h => by cases h
  | a :: l, h, fn, hm => by
    have h : (!(a.name == "runtime.NumGoroutine") && namesOk l) = true := h
    rw [Bool.and_eq_true] at h
    rcases List.mem_cons.1 hm with rfl | hm
    · have := h.1; simpa using this
    · exact namesOk_mem l h.2 fn hm
theorem names_all : namesOk Tryz.prog.funcs.toList = true := by kernel_rfl
theorem name_of (f : Nat) (fn : Func) (h : Tryz.prog.funcs[f]? = some fn) : fn.name ≠ "runtime.NumGoroutine" :=
  namesOk_mem _ names_all fn (by rw [← Array.getElem?_toList] at h; exact List.mem_of_getElem? h)
theorem mixed : Tryz.prog.follows .mixedOrders = true := by kernel_rfl
theorem ext111 {C : Cfg} (hP : C.P = Tryz.prog) (he : C.ext = extG) : ∀ f e, C.ext f = some e → ∀ args h v h' pn, externA h e args = some (v, h') → CallOk C f args h pn (.val v h' pn) := by
  intro f e hf args h v h' pn hx
  rw [he] at hf
  unfold extG at hf
  cases hb : Nat.beq f 111 with
  | false => rw [hb] at hf; cases hf
  | true =>
    rw [hb] at hf
    cases hf
    have : f = 111 := Nat.eq_of_beq_eq_true hb
    subst this
    refine ext_same (fn := Tryz.f111) (by rw [hP]; kernel_rfl) (by kernel_rfl) (name_of 111 Tryz.f111 (by kernel_rfl)) (by kernel_rfl) (by kernel_rfl) hx
theorem CallOk.to {C D : Cfg} (hP : C.P = D.P) (hg : C.glob = D.glob) (ho : C.gobj = D.gobj) (hn : C.nodef = D.nodef) {f : FuncId} {args : List AV} {h : Heap} {pn : Option AV} {res : Res} (K : CallOk C f args h pn res) : CallOk D f args h pn res := by
  intro w F μ vs G H r
  have G' : GRel C w F := ⟨fun g => by rw [hg]; exact G.at_ g, fun g vs e => G.obj g vs (by rw [← ho]; exact e)⟩
  have := K w F μ vs G' H r
  rw [hP, hn] at this
  exact this
theorem given0 : Given C0 := ⟨ext111 rfl rfl, fun f args v h => (by cases h), name_of⟩
theorem given1 : Given C1 := by
  refine ⟨ext111 rfl rfl, fun f args v hs h => ?_, name_of⟩
  have hs : spec1 f args = some v := hs
  unfold spec1 at hs
  cases h1 : Nat.beq f 30 with
  | true =>
    have : f = 30 := Nat.eq_of_beq_eq_true h1
    subst this
    rw [h1] at hs
    simp only [cond_true] at hs
    split at hs
    · cases hs
      exact CallOk.to (C := C0) (D := C1) rfl rfl rfl rfl (run_ok (C := C0) given0 mixed (example_ok h))
    · cases hs
  | false =>
    rw [h1] at hs
    simp only [cond_false] at hs
    cases h2 : Nat.beq f 75 with
    | false => rw [h2] at hs; cases hs
    | true =>
      have : f = 75 := Nat.eq_of_beq_eq_true h2
      subst this
      rw [h2] at hs
      simp only [cond_true] at hs
      cases h3 : beqL (beqAV 64) args [pE] with
      | false => rw [h3] at hs; cases hs
      | true =>
        rw [h3] at hs
        cases hs
        have : args = [pE] := beqL_sound (beqAV_sound 64) _ _ h3
        subst this
        exact CallOk.to (C := C0) (D := C1) rfl rfl rfl rfl (run_ok (C := C0) given0 mixed (check_ok h))
theorem givenG (K : Nat) : Given (Cg K) := by
  refine ⟨ext111 rfl rfl, fun f args v hs h => ?_, name_of⟩
  have hs : specG f args = some v := hs
  unfold specG at hs
  cases h1 : Nat.beq f 8 with
  | false =>
    rw [h1] at hs
    simp only [cond_false] at hs
    cases h2 : Nat.beq f 69 with
    | false => rw [h2] at hs; cases hs
    | true =>
      have : f = 69 := Nat.eq_of_beq_eq_true h2
      subst this
      rw [h2] at hs
      simp only [cond_true] at hs
      split at hs
      · rename_i n hh
        cases hr : inR64 n with
        | false => rw [hr] at hs; cases hs
        | true => rw [hr] at hs; cases hs; exact itoa_ok K hr h
      · cases hs
  | true =>
    have : f = 8 := Nat.eq_of_beq_eq_true h1
    subst this
    rw [h1] at hs
    simp only [cond_true] at hs
    split at hs
    · cases hs
      exact CallOk.to (C := C1) (D := Cg K) rfl rfl rfl rfl (run_ok (C := C1) given1 mixed (awake_ok h))
    · cases hs
end
end Go.Abs
