/- A part of the proofs of the laws of logs: see the last text of this claim. -/
import Derived.Shelf.Strings.FuncGrows
import Derived.Test.YtlehhkleemaloaaGreatDoorK1
namespace Go.Proofs
open Go.Shelf
def Tryz.lays315_ren : Go.Shelf.Ren := ⟨fun | 315 => 87 | n => n, fun | 40 => 138 | n => n, fun n => n⟩
theorem Tryz.lays315 : Go.Proofs.Lays.n315 Tryz.prog Tryz.lays315_ren := {
  mixed := by kernel_rfl
  f315 := Tryz.func87.trans (congrArg some (by kernel_rfl))
  t0 := Tryz.underlying0
  a0 := Tryz.isAgg0
  z0 := Tryz.sizeOf0
  v0 := Tryz.zeroValue0
  t3 := Tryz.underlying3
  a3 := Tryz.isAgg3
  z3 := Tryz.sizeOf3
  v3 := Tryz.zeroValue3
  t4 := Tryz.underlying4
  a4 := Tryz.isAgg4
  z4 := Tryz.sizeOf4
  v4 := Tryz.zeroValue4
  t9 := Tryz.underlying9
  a9 := Tryz.isAgg9
  z9 := Tryz.sizeOf9
  v9 := Tryz.zeroValue9
  t21 := Tryz.underlying21
  a21 := Tryz.isAgg21
  z21 := Tryz.sizeOf21
  v21 := Tryz.zeroValue21
  t40 := Tryz.underlying138
  a40 := Tryz.isAgg138
  z40 := Tryz.sizeOf138
  v40 := Tryz.zeroValue138 }
end Go.Proofs
namespace Go.Abs
noncomputable section
open Go Go.Proofs
/-! ## Numbers read: the kit's contract for strconv.Atoi, as the interpreter takes it -/
theorem name68 : Tryz.f68.name ≠ "runtime.NumGoroutine" := by decide
theorem name87 : Tryz.f87.name ≠ "runtime.NumGoroutine" := by decide
theorem name67 : Tryz.f67.name ≠ "runtime.NumGoroutine" := by decide
/-- the variable of an error holds an error -/
theorem err_of {K g : Nat} {w : World} {F : Nat → Prop} (G : GRel (Cg K) w F) (hg : globG g = .ptrR [.ifc 349 .dead] 0) : ∃ ev : Value, w.cell? ⟨g, 0, none⟩ = some ev ∧ (ev = .nilIface ∨ ∃ te pe, ev = .iface te pe) := by
  have h := G.at_ g
  have e : (Cg K).glob g = globG g := rfl
  rw [e, hg] at h
  unfold Rel at h
  obtain ⟨b, o, _, e2, R⟩ := h
  unfold RelC at R
  obtain ⟨⟨v, hv, _, rv⟩, _⟩ := R
  unfold Rel at rv
  obtain ⟨y, rfl, _⟩ := rv
  have e3 : b = g ∧ o = 0 := by
    injection e2 with e2; injection e2 with e2; injection e2 with e4 e5 e6; omega
  obtain ⟨rfl, rfl⟩ := e3
  exact ⟨_, hv, .inr ⟨_, _, rfl⟩⟩
theorem rel_err {w : World} {F : Nat → Prop} {v : Int} {t : Nat} {y : Value} : Rel w F (.tup [.int .i64 v, .ifc t .dead]) Map.none (.tuple #[.int .i64 v, .iface t y]) := by
  unfold Rel
  refine ⟨_, rfl, ?_⟩
  unfold RelL
  refine ⟨_, _, rfl, by unfold Rel; rfl, ?_⟩
  unfold RelL
  refine ⟨_, _, rfl, by unfold Rel; exact ⟨_, rfl, by unfold Rel; trivial⟩, by unfold RelL; rfl⟩
theorem atoi_ok (K : Nat) {p : List UInt8} (hp : Nat.ble (lenN p) 4000 = true) (h : Heap) : CallOk (Cg K) 68 [.str p] h none (.val (atoiR p) h none) := by
  refine callOk_of (C := Cg K) (fn := Tryz.f68) (c := bodyOf Tryz.f68) (by kernel_rfl) (by kernel_rfl) name68 (by kernel_rfl) (by kernel_rfl) h fun w F vs G _ r => ?_
  obtain ⟨u, hu, ru⟩ := relL_one r
  unfold Rel at ru
  have hv : vs = #[.string ⟨⟨p⟩⟩] := by rw [hu, ru]
  subst hv
  have hl : (⟨⟨p⟩⟩ : ByteArray).size ≤ 4000 := by
    have := Nat.le_of_ble_eq_true hp
    rw [lenN_eq] at this
    exact this
  unfold atoiR
  cases ha : Lib.atoiAll p
  case ok v =>
    refine (Any.strconv_Atoi_ok Tryz.laysC172 ⟨⟨p⟩⟩ (by omega) v ha w).mono ?_
    rintro e w' ⟨rfl, hw⟩
    refine ⟨_, rfl, ?_, ?_⟩
    · rcases hw with rfl | ⟨t, rfl⟩
      · exact RowKit.Below.refl _ _
      · exact Lib.bytesWorld_below _ _ _
    · unfold Rel
      refine ⟨_, rfl, ?_⟩
      unfold RelL
      refine ⟨_, _, rfl, by unfold Rel; rfl, ?_⟩
      unfold RelL
      exact ⟨_, _, rfl, by unfold Rel; rfl, by unfold RelL; rfl⟩
  case range =>
    obtain ⟨ev, h1, h2⟩ := err_of (g := 1) G (by kernel_rfl)
    refine (Any.strconv_Atoi_range Tryz.laysC172 ⟨⟨p⟩⟩ (by omega) ha ev w h1 h2).mono ?_
    rintro e w' ⟨N, rfl, _, _, hb⟩
    exact ⟨_, rfl, hb, rel_err⟩
  all_goals
    obtain ⟨ev, h1, h2⟩ := err_of (g := 0) G (by kernel_rfl)
    refine (Any.strconv_Atoi_syntax Tryz.laysC172 ⟨⟨p⟩⟩ (by omega) ha ev w h1 h2).mono ?_
    rintro e w' ⟨N, rfl, _, _, hb⟩
    exact ⟨_, rfl, hb, rel_err⟩

/-! ## Where a number ends: the kit's contract for strings.indexFunc -/
theorem rnB_nat (x : Nat) : rnB (x : Int) = ncNot x := by
  unfold rnB ncNot
  have h1 : (((x : Nat) : Int) != 45) = !decide (x = 45) := by
    by_cases h : x = 45
    · subst h; rfl
    · rw [decide_eq_false h]; exact bne_iff_ne.2 (by omega)
  have h2 : decide (((x : Nat) : Int) < 48) = decide (x < 48) := decide_eq_decide.2 (by omega)
  have h3 : decide (((x : Nat) : Int) > 57) = decide (57 < x) := decide_eq_decide.2 (by omega)
  rw [h1, h2, h3]
theorem c0_grel {K : Nat} {w W : World} {F : Nat → Prop} (G : GRel (Cg K) w F) (hF : ∀ b, F b → b < w.heap.size) (B : RowKit.Below w.heap.size w W) : GRel C0 W F := by
  have k : Keeps w F Map.none W F Map.none := ⟨fun b hb => ⟨hb, B.block b (hF b hb)⟩, Map.le_refl _, fun _ _ _ hm => by cases hm⟩
  have G' := GRel.mono G k k
  exact ⟨fun g => G'.at_ g, fun g vs e => G'.obj g vs e⟩
theorem pred_ok {K : Nat} {w : World} {F : Nat → Prop} (G : GRel (Cg K) w F) (hF : ∀ b, F b → b < w.heap.size) : PredGrows Tryz.prog 67 #[] ncNot w := by
  intro W x _ B
  have G0 := c0_grel G hF B
  have hF' : ∀ b, F b → b < W.heap.size := fun b hb => Nat.lt_of_lt_of_le (hF b hb) B.size
  have K0 : CallOk C0 67 [.int .i32 (x : Int)] Heap.empty none (.val (.bool (rnB (x : Int))) Heap.empty none) := run_ok (C := C0) given0 mixed (f67_c (n := 1) (Nat.le_refl _) (x : Int))
  refine (calls_of (C := C0) (fn := Tryz.f67) (c := bodyOf Tryz.f67) (by kernel_rfl) (by kernel_rfl) name67 K0 G0 hF' (vs := #[.int .i32 (x : Int)]) ?_).mono ?_
  · unfold RelL
    exact ⟨_, _, rfl, by unfold Rel; rfl, by unfold RelL; rfl⟩
  · rintro e w' ⟨v, F', μ', rfl, rv, _, hb⟩
    unfold Rel at rv
    rw [rv, rnB_nat]
    exact ⟨rfl, hb⟩
theorem enter67 : ∀ args w, (callFunc 67 args).run Tryz.prog w = .ok (.enter 67 args) w := Go.Proofs.enters_of (fn := Tryz.f67) (c := bodyOf Tryz.f67) (by kernel_rfl) (by decide) (by kernel_rfl)
theorem idx_ok (K : Nat) {p : List UInt8} (h : Heap) : CallOk (Cg K) 87 [.str p, .fn (.func 67) [] [], .bool true] h none (.val (.int .i64 (Lib.idxFunc ncNot true ⟨⟨p⟩⟩)) h none) := by
  refine callOk_of (C := Cg K) (fn := Tryz.f87) (c := bodyOf Tryz.f87) (by kernel_rfl) (by kernel_rfl) name87 (by kernel_rfl) (by kernel_rfl) h fun w F vs G hF r => ?_
  have hv : vs = #[.string ⟨⟨p⟩⟩, .func (.func 67) #[] #[], .bool true] := by
    unfold RelL at r
    obtain ⟨v, l, e, r1, r⟩ := r
    unfold Rel at r1
    unfold RelL at r
    obtain ⟨v2, l2, rfl, r2, r⟩ := r
    unfold Rel at r2
    obtain ⟨g, a, b, rfl, rf, ra, rb⟩ := r2
    unfold RelL at r
    obtain ⟨v3, l3, rfl, r3, r⟩ := r
    unfold Rel at r3
    unfold RelL at r
    subst r1 r3 r
    unfold RelL at ra rb
    have ha : a = #[] := Array.ext' ra
    have hb : b = #[] := Array.ext' rb
    subst ha hb
    have hg : g = .func 67 := by
      unfold RelFn at rf
      split at rf <;> first | (exact rf.symm) | (rename_i h1 h2; simp_all) | (obtain ⟨_, _, h1, _⟩ := rf; cases h1)
    subst hg
    exact Array.ext' e
  subst hv
  refine (Any.strings_indexFunc_grows Tryz.lays315 67 #[] enter67 ncNot true ⟨⟨p⟩⟩ w (pred_ok G hF)).mono ?_
  rintro e w' ⟨rfl, hb⟩
  exact ⟨_, rfl, hb, by unfold Rel; rfl⟩
end
end Go.Abs
namespace Go.Abs
noncomputable section
open Go Go.Proofs
theorem spec_one {K : Nat} {f : Nat} {args : List AV} {v : AV} (hs : specG f args = some v) (h : Heap) : CallOk (Cg K) f args h none (.val v h none) := by
  unfold specG at hs
  cases h1 : Nat.beq f 8 with
  | true =>
    have : f = 8 := Nat.eq_of_beq_eq_true h1
    subst this
    rw [h1] at hs
    simp only [cond_true] at hs
    unfold spec8 at hs
    split at hs
    · cases hs
      exact CallOk.to (C := C1) (D := Cg K) rfl rfl rfl rfl (run_ok (C := C1) given1 mixed (awake_ok h))
    · cases hs
  | false =>
    rw [h1] at hs
    simp only [cond_false] at hs
    cases h2 : Nat.beq f 69 with
    | true =>
      have : f = 69 := Nat.eq_of_beq_eq_true h2
      subst this
      rw [h2] at hs
      simp only [cond_true] at hs
      unfold spec69 at hs
      split at hs
      · rename_i n
        cases hr : inR64 n with
        | false => rw [hr] at hs; cases hs
        | true => rw [hr] at hs; cases hs; exact itoa_ok K hr h
      · cases hs
    | false =>
      rw [h2] at hs
      simp only [cond_false] at hs
      cases h3 : Nat.beq f 68 with
      | true =>
        have : f = 68 := Nat.eq_of_beq_eq_true h3
        subst this
        rw [h3] at hs
        simp only [cond_true] at hs
        unfold spec68 at hs
        split at hs
        · rename_i p
          cases hr : Nat.ble (lenN p) 4000 with
          | false => rw [hr] at hs; cases hs
          | true => rw [hr] at hs; cases hs; exact atoi_ok K hr h
        · cases hs
      | false =>
        rw [h3] at hs
        simp only [cond_false] at hs
        cases h4 : Nat.beq f 87 with
        | false => rw [h4] at hs; cases hs
        | true =>
          have : f = 87 := Nat.eq_of_beq_eq_true h4
          subst this
          rw [h4] at hs
          simp only [cond_true] at hs
          unfold spec87 at hs
          split at hs
          · cases hs; exact idx_ok K h
          · cases hs
theorem givenG (K : Nat) : Given (Cg K) := ⟨ext111 rfl rfl, fun _ _ _ hs h => spec_one hs h, name_of⟩
end
end Go.Abs
