/- A part of the proof of DirectDifferences: see the last text of this claim. -/
import Derived.Test.YtfdpjfgkdjlomaaGreatDoorK2
import Derived.Test.YtfdpjfgkdjlomaaGreatDoorK3
import Derived.Test.YtfdpjfgkdjlomaaGreatDoorY1
namespace Go.Abs
noncomputable section
open Go Go.Proofs
/-! ## The law's example is right: the parts together -/
theorem eqK_some {args l : List AV} {v u : AV} {n : Option AV} (h : eqK args l v n = some u) : (args = l ∧ u = v) ∨ n = some u := by
  unfold eqK at h
  cases hb : beqL (beqAV 64) args l with
  | true => rw [hb] at h; cases h; exact .inl ⟨beqL_sound (beqAV_sound 64) _ _ hb, rfl⟩
  | false => rw [hb] at h; exact .inr h
theorem moveK {sp sp' : FuncId → List AV → Option AV} {f : FuncId} {args : List AV} {h : Heap} {v : AV} (K : CallOk (CK sp) f args h none (.val v h none)) : CallOk (CK sp') f args h none (.val v h none) :=
  CallOk.to (C := CK sp) (D := CK sp') rfl rfl rfl rfl rfl K
theorem givenK {sp : FuncId → List AV → Option AV} (H : ∀ f args v, sp f args = some v → ∀ h, CallOk (CK sp) f args h none (.val v h none)) : Given (CK sp) :=
  ⟨fun f e he => (by cases he), fun f args v hs h => H f args v hs h, name_of⟩
theorem given0 : Given (CK spK0) := givenK fun f args v hs => by cases hs
theorem spec1K {f : FuncId} {args : List AV} {v : AV} (hs : spK1 f args = some v) (h : Heap) {sp : FuncId → List AV → Option AV} : CallOk (CK sp) f args h none (.val v h none) := by
  unfold spK1 at hs
  cases h1 : Nat.beq f 58 with
  | true =>
    obtain rfl : f = 58 := Nat.eq_of_beq_eq_true h1
    rw [h1] at hs
    rcases eqK_some hs with ⟨rfl, rfl⟩ | hs
    · exact moveK (run_ok (C := CK spK0) given0 mixed (run58 h))
    · cases hs
  | false =>
    rw [h1] at hs
    simp only [cond_false] at hs
    cases h2 : Nat.beq f 69 with
    | true =>
      obtain rfl : f = 69 := Nat.eq_of_beq_eq_true h2
      rw [h2] at hs
      rcases eqK_some hs with ⟨rfl, rfl⟩ | hs
      · exact moveK (run_ok (C := CK spK0) given0 mixed (run69 h))
      · cases hs
    | false => rw [h2] at hs; cases hs
theorem given1 : Given (CK spK1) := givenK fun f args v hs h => spec1K hs h
theorem spec2K {f : FuncId} {args : List AV} {v : AV} (hs : spK2 f args = some v) (h : Heap) {sp : FuncId → List AV → Option AV} : CallOk (CK sp) f args h none (.val v h none) := by
  unfold spK2 at hs
  cases h1 : Nat.beq f 109 with
  | true =>
    obtain rfl : f = 109 := Nat.eq_of_beq_eq_true h1
    rw [h1] at hs
    simp only [cond_true] at hs
    rcases eqK_some hs with ⟨rfl, rfl⟩ | hs
    · exact moveK (run_ok (C := CK spK1) given1 mixed (run109_0 h))
    rcases eqK_some hs with ⟨rfl, rfl⟩ | hs
    · exact moveK (run_ok (C := CK spK1) given1 mixed (run109_1 h))
    rcases eqK_some hs with ⟨rfl, rfl⟩ | hs
    · exact moveK (run_ok (C := CK spK1) given1 mixed (run109_2 h))
    rcases eqK_some hs with ⟨rfl, rfl⟩ | hs
    · exact moveK (run_ok (C := CK spK1) given1 mixed (run109_3 h))
    rcases eqK_some hs with ⟨rfl, rfl⟩ | hs
    · exact moveK (run_ok (C := CK spK1) given1 mixed (run109_4 h))
    · cases hs
  | false => rw [h1] at hs; exact spec1K hs h
theorem given2 : Given (CK spK2) := givenK fun f args v hs h => spec2K hs h
theorem spec3K {f : FuncId} {args : List AV} {v : AV} (hs : spK3 f args = some v) (h : Heap) {sp : FuncId → List AV → Option AV} : CallOk (CK sp) f args h none (.val v h none) := by
  unfold spK3 at hs
  cases h1 : Nat.beq f 15 with
  | true =>
    obtain rfl : f = 15 := Nat.eq_of_beq_eq_true h1
    rw [h1] at hs
    rcases eqK_some hs with ⟨rfl, rfl⟩ | hs
    · exact moveK (run_ok (C := CK spK2) given2 mixed (run15 h))
    · cases hs
  | false => rw [h1] at hs; exact spec2K hs h
theorem given3 : Given (CK spK3) := givenK fun f args v hs h => spec3K hs h
/-- the example is right -/
theorem awake_ok (h : Heap) : CallOk CB 4 [] h none (.val (gB true) h none) :=
  CallOk.to (C := CK spK3) (D := CB) rfl rfl rfl rfl rfl (run_ok (C := CK spK3) given3 mixed (run4 h))
theorem r63_ok : RsOk r63 := RsOk.add r62_ok 4 fun _ _ _ e _ h => by
  split at e
  · cases e; exact awake_ok h
  · cases e
theorem law_ok {ch : List Int} {ev : List Mev} {vd : List Int} {st : Int} {ch2 : List Int} {ev2 : List Mev} {vd2 : List Int} {st2 : Int} (hP : RunOk ch ev vd) (hQ : RunOk ch2 ev2 vd2) (h : Heap) : CallOk CB 3 [.agg [.slT .int ch false, .slT .event ev false, .slT .int vd false, .int .i64 st], .agg [.slT .int ch2 false, .slT .event ev2 false, .slT .int vd2 false, .int .i64 st2]] h none (.val (gB true) h none) :=
  f3_true r63_ok hP hQ h
end
end Go.Abs
