/- A part of the proof of DirectDifferences: see the last text of this claim. -/
import Derived.Laws.Tables
import Derived.Laws.MakeOwn
import Derived.Great.BuildSlice
import Derived.Laws.IdiomCopy
import Derived.Laws.BytesString
import Derived.Lib.ConvBytes
import Derived.Lib.OthersKept
import Derived.Laws.AppendOwn
import Derived.Lib.UnsafeStr
import Derived.Test.YtfdpjfgkdjlomaaGreatDoorA0
namespace Go.Abs
noncomputable section
open Go
section
variable {C : Cfg} {w : World} {F : Nat → Prop} {μ : Map} {h : Heap}
theorem field_sound {t : TypeId} {x a : AV} {v : Value} {f : Nat} (e : opField C t x f = some a) (r : Rel w F x μ v) : ∃ u, (Instr.field t v f).run C.P w = .ok u w ∧ Rel w F a μ u := by
  unfold opField at e
  split at e
  · rename_i fs hu
    split at e
    · rename_i cs
      split at e
      · rename_i fd hf
        obtain ⟨vs, rfl, r1, r2⟩ := rel_agg r
        obtain ⟨u, h1, h2⟩ := part_sound fd.offset r1 r2 e
        exact ⟨u, by simp [Instr.field, run_underlying hu, hf, asAgg, h1], h2⟩
      · cases e
    · cases e
  · cases e

theorem byte_get (s : List UInt8) (i : Nat) : (⟨⟨s⟩⟩ : ByteArray)[i]? = s[i]? := by
  simp only [getElem?_def]
  rfl

theorem index_sound {t : TypeId} {x ix a : AV} {v vi : Value} (e : opIndex C t x ix = some a) (r : Rel w F x μ v) (ri : Rel w F ix μ vi) : ∃ u, (Instr.index t v vi).run C.P w = .ok u w ∧ Rel w F a μ u := by
  unfold opIndex at e
  split at e
  · cases e
  · rename_i i hn
    obtain ⟨k, rfl⟩ := natOf_sound hn ri
    split at e
    · rename_i hu
      split at e
      · rename_i s
        split at e
        · rename_i b hb
          cases e
          rw [nth_eq] at hb
          rw [rel_str r]
          exact ⟨.int .u8 b.toNat, by simp [Instr.index, asIntOf, run_underlying hu, byte_get, hb], mk_int _ _⟩
        · cases e
      · cases e
    · rename_i n el hu
      split at e
      · rename_i cs
        cases hb : Nat.ble (Nat.succ i) n with
        | false => simp only [hb, cond_false] at e; cases e
        | true =>
          simp only [hb, cond_true] at e
          have hlt : i < n := Nat.le_of_ble_eq_true hb
          obtain ⟨vs, rfl, r1, r2⟩ := rel_agg r
          obtain ⟨d, inf, hu2, hi, _⟩ := mkT_sound e
          rw [show Nat.mul i (sizeT C el) = i * inf.size by rw [sizeT_eq hi]; rfl] at e
          obtain ⟨u, h1, h2⟩ := part_sound (i * inf.size) r1 r2 e
          exact ⟨u, by simp [Instr.index, asIntOf, run_underlying hu, hlt, run_size hi, h1], h2⟩
      · cases e
    · cases e

theorem extract_sound {x a : AV} {v : Value} {i : Nat} (e : opExtract x i = some a) (r : Rel w F x μ v) : ∃ u, (Instr.extract v i).run C.P w = .ok u w ∧ Rel w F a μ u := by
  unfold opExtract at e
  split at e
  · obtain ⟨vs, rfl, r1⟩ := rel_tup r
    rw [nth_eq] at e
    obtain ⟨u, h1, h2⟩ := (RelL.get r1).2 i a e
    exact ⟨u, by simp at h1; simp [Instr.extract, h1], h2⟩
  · cases e

theorem iface_sound {t : TypeId} {x a : AV} {v : Value} (e : opIface C t x = some a) (r : Rel w F x μ v) : ∃ u, (Instr.makeInterface t v).run C.P w = .ok u w ∧ Rel w F a μ u := by
  unfold opIface at e
  split at e
  · cases e
  · cases e
  · rename_i d hn hu
    cases e
    refine ⟨.iface t v, ?_, by unfold Rel; exact ⟨v, rfl, r⟩⟩
    unfold Instr.makeInterface
    simp only [Sem.run_bind, run_underlying hu, Result.andThen_ok]
    cases d <;> first | rfl | (exact absurd rfl (hn _))

theorem rel_zero {t : TypeId} {z : List AV} (e : zeroCells C t = some z) : ∃ i v, C.P.info? t = some i ∧ i.zero = some v ∧ RelL w F z μ v.cells.toList ∧ (∀ x ∈ v.cells.toList, one x = true) ∧ z.length = i.size ∧ v.cells.size = i.size := by
  unfold zeroCells at e
  cases hi : C.P.info? t with
  | none => simp [hi] at e
  | some i =>
    cases hz : i.zero with
    | none => simp [hi, hz] at e
    | some v =>
      simp only [hi, hz] at e
      cases ho : (v.cells.toList.all one && Nat.beq (lenN v.cells.toList) i.size) with
      | false => rw [ho] at e; cases e
      | true =>
        rw [ho] at e
        cases e
        rw [Bool.and_eq_true] at ho
        have h2 := Nat.eq_of_beq_eq_true ho.2
        rw [lenN_eq] at h2
        exact ⟨i, v, rfl, hz, rel_scalars _, fun x hx => List.all_eq_true.1 ho.1 x hx, by simpa using h2, by simpa using h2⟩

theorem run_zero {P : Program} {t : TypeId} {i : TypeInfo} {v : Value} (hi : P.info? t = some i) (hz : i.zero = some v) : (zeroValue t).run P w = .ok v w := by simp [zeroValue, run_info P hi, hz]

theorem zeroT_sound {t : TypeId} {a : AV} (e : zeroT C t = some a) : ∃ v, (zeroValue t).run C.P w = .ok v w ∧ Rel w F a μ v := by
  unfold zeroT at e
  cases hi : C.P.info? t with
  | none => simp [hi] at e
  | some i =>
    cases hz : i.zero with
    | none => simp [hi, hz] at e
    | some v =>
      simp [hi, hz] at e
      subst e
      exact ⟨v, run_zero hi hz, rel_value v⟩

theorem mk_pair {x y : AV} {u v : Value} (r : Rel w F x μ u) (s : Rel w F y μ v) : Rel w F (.tup [x, y]) μ (.tuple #[u, v]) := by
  unfold Rel
  refine ⟨_, rfl, ?_⟩
  show RelL w F [x, y] μ [u, v]
  unfold RelL
  refine ⟨u, [v], rfl, r, ?_⟩
  unfold RelL
  exact ⟨v, [], rfl, s, by unfold RelL; rfl⟩

theorem failT_sound {t : TypeId} {ok : Bool} {a : AV} (e : failT C t ok = some a) : ok = true ∧ ∃ v, (zeroValue t).run C.P w = .ok v w ∧ Rel w F a μ (.tuple #[v, .bool false]) := by
  unfold failT at e
  cases ok with
  | false => cases e
  | true =>
    simp only [cond_true] at e
    split at e
    · rename_i z hz
      cases e
      obtain ⟨v, h1, h2⟩ := zeroT_sound (w := w) (F := F) (μ := μ) hz
      exact ⟨rfl, v, h1, mk_pair h2 (mk_bool _)⟩
    · cases e

theorem assert_sound {xt t : TypeId} {ok : Bool} {x a : AV} {v : Value} (e : opAssert C x t ok = some a) (r : Rel w F x μ v) : ∃ u, (Instr.typeAssert v xt t ok).run C.P w = .ok u w ∧ Rel w F a μ u := by
  unfold opAssert at e
  split at e
  · cases e
  · cases e
  · rename_i d hn hu
    have hni : ∀ ms, d ≠ .interface ms := fun ms hd => hn ms (by rw [hd])
    split at e
    · rename_i t' y
      unfold Rel at r
      obtain ⟨p, rfl, r1⟩ := r
      by_cases ht : t' = t
      · subst ht
        rw [beq_true rfl] at e
        cases e
        cases ok with
        | true =>
          refine ⟨.tuple #[p, .bool true], ?_, mk_pair r1 (mk_bool _)⟩
          unfold Instr.typeAssert
          simp only [Sem.run_bind, run_underlying hu, Result.andThen_ok]
          cases d <;> first | (exact absurd rfl (hni _)) | simp
        | false =>
          refine ⟨p, ?_, r1⟩
          unfold Instr.typeAssert
          simp only [Sem.run_bind, run_underlying hu, Result.andThen_ok]
          cases d <;> first | (exact absurd rfl (hni _)) | simp
      · rw [beq_false ht] at e
        obtain ⟨rfl, z, h1, h2⟩ := failT_sound (w := w) (F := F) (μ := μ) e
        refine ⟨.tuple #[z, .bool false], ?_, h2⟩
        unfold Instr.typeAssert
        simp only [Sem.run_bind, run_underlying hu, Result.andThen_ok]
        cases d <;> first | (exact absurd rfl (hni _)) | simp [ht, h1]
    · obtain ⟨rfl, z, h1, h2⟩ := failT_sound (w := w) (F := F) (μ := μ) e
      unfold Rel at r
      subst r
      refine ⟨.tuple #[z, .bool false], ?_, h2⟩
      unfold Instr.typeAssert
      simp only [Sem.run_bind, run_underlying hu, Result.andThen_ok]
      cases d <;> first | (exact absurd rfl (hni _)) | simp [h1]
    · cases e

theorem nilCheck_sound {x a : AV} {v : Value} (H : HRel w F μ h) (e : opNilCheck x = some a) (r : Rel w F x μ v) (o : Oper) (ρ : Operand → Value) (xo : Operand) (ho : o.op = .nilCheck xo) (hx : ρ xo = v) : OpOk C w F μ (execOp ρ o) a h := by
  unfold execOp
  rw [ho]
  simp only [hx]
  unfold opNilCheck at e
  split at e
  · cases e; have r' := r; unfold Rel at r; obtain ⟨b, o', hm, rfl⟩ := r; exact OpOk.pure H r'
  · cases e; have r' := r; unfold Rel at r; obtain ⟨b, o', hm, rfl, _⟩ := r; exact OpOk.pure H r'
  · cases e; have r' := r; unfold Rel at r; obtain ⟨g, p, q, rfl, hg, _⟩ := r; unfold RelFn at hg; subst hg; exact OpOk.pure H r'
  · cases e; have r' := r; unfold Rel at r; obtain ⟨y, rfl, _⟩ := r; exact OpOk.pure H r'
  · cases e

theorem mkFunc_sound {f : Fn} {x y : List AV} {a b : Array Value} (hf : ∀ id, f ≠ .yield id) (rx : RelL w F x μ a.toList) (ry : RelL w F y μ b.toList) : Rel w F (.fn f x y) μ (.func f a b) := by
  unfold Rel
  refine ⟨f, a, b, rfl, ?_, rx, ry⟩
  unfold RelFn
  split
  · rename_i id; exact absurd rfl (hf id)
  · rfl

/-! ### lengths -/
theorem lenA_sound {x : AV} {n : Nat} {v : Value} (e : lenA x = some n) (r : Rel w F x μ v) : (∃ s : List UInt8, x = .str s ∧ v = .string ⟨⟨s⟩⟩ ∧ n = s.length) ∨ (∃ a c, v = .slice a n c ∧ ∀ s, x ≠ .str s) := by
  unfold lenA at e
  split at e
  · cases e; unfold Rel at r; subst r; exact .inr ⟨_, _, rfl, by simp⟩
  · cases e; unfold Rel at r; obtain ⟨b, o, a, c, _, rfl, _⟩ := r; exact .inr ⟨_, _, rfl, by simp⟩
  · cases e; unfold Rel at r; obtain ⟨b, o, a, c, _, rfl, _⟩ := r; exact .inr ⟨_, _, rfl, by simp⟩
  · cases e; obtain ⟨a, c, rfl⟩ := slT_val r; exact .inr ⟨_, _, rfl, by simp⟩
  · rename_i s; cases e; exact .inl ⟨s, rfl, rel_str r, lenN_eq s⟩
  · cases e
theorem run_lenOf {x : AV} {n : Nat} {v : Value} (e : lenA x = some n) (r : Rel w F x μ v) : (Builtin.lenOf v).run C.P w = .ok n w := by
  rcases lenA_sound e r with ⟨s, _, rfl, rfl⟩ | ⟨a, c, rfl, _⟩ <;> rfl

/-! ### slices -/
def RelO (w : World) (F : Nat → Prop) (μ : Map) (x : Option AV) (v : Option Value) : Prop :=
  match x, v with
  | none, none => True
  | some x, some v => Rel w F x μ v
  | _, _ => False

theorem bound_some {x : Option AV} {d n : Nat} {v : Value} (e : boundA x d = some n) (r : RelO w F μ x (some v)) : ∃ k, v = .int k n := by
  unfold boundA at e
  cases x with
  | none => exact r.elim
  | some x => exact natOf_sound e r
theorem bound_none {x : Option AV} {d n : Nat} (e : boundA x d = some n) (r : RelO w F μ x none) : n = d := by
  unfold boundA at e
  cases x with
  | none => cases e; rfl
  | some x => exact r.elim
theorem run_bound {P : Program} {k : IntKind} {n y : Nat} (c : BoundsCode) (hn : n ≤ y) : (Instr.sliceBound (.int k n) y c).run P w = .ok n w := by
  simp [Instr.sliceBound, asIntOf, hn]

theorem cutOk_of {l h m cap : Nat} (e : cutOk l h m cap = true) : m ≤ cap ∧ h ≤ m ∧ l ≤ h := by
  unfold cutOk at e
  simp only [Bool.and_eq_true] at e
  exact ⟨Nat.le_of_ble_eq_true e.1, Nat.le_of_ble_eq_true e.2.1, Nat.le_of_ble_eq_true e.2.2⟩

/-- the bounds of a slice expression: those of the abstract one, but the capacity may be greater -/
theorem run_bounds {P : Program} {isS : Bool} {l h m len cap c : Nat} {lo hi mx : Option AV} {vlo vhi vmx : Option Value} (rl : RelO w F μ lo vlo) (rh : RelO w F μ hi vhi) (rm : RelO w F μ mx vmx)
    (e : boundsA lo hi mx len cap = some (l, h, m)) (h4 : cap ≤ c) :
    l ≤ h ∧ h ≤ m ∧ m ≤ cap ∧ (mx.isSome = false → m = cap) ∧ (Instr.sliceBounds isS len c vlo vhi vmx).run P w = .ok (l, h, if mx.isSome then m else c) w := by
  unfold boundsA at e
  split at e
  · rename_i l' h' m' el eh em
    cases hc : (cutOk l' h' m' cap && (mx.isNone || hi.isSome)) with
    | false => simp only [hc, cond_false] at e; cases e
    | true =>
      simp only [hc, cond_true] at e
      cases e
      simp only [Bool.and_eq_true, Bool.or_eq_true] at hc
      obtain ⟨h3, h2, h1⟩ := cutOk_of hc.1
      refine ⟨h1, h2, h3, ?_, ?_⟩
      · intro hm
        cases mx with
        | none => exact (Option.some.inj em).symm
        | some _ => simp at hm
      · unfold Instr.sliceBounds
        cases vmx with
        | none =>
          have hm := bound_none em rm
          cases mx with
          | some _ => exact rm.elim
          | none =>
            cases vhi with
            | none =>
              have := bound_none eh rh
              subst this
              cases vlo with
              | none => have := bound_none el rl; subst this; simp
              | some v => obtain ⟨k, rfl⟩ := bound_some el rl; simp [run_bound _ h1]
            | some v =>
              obtain ⟨k, rfl⟩ := bound_some eh rh
              cases vlo with
              | none => have := bound_none el rl; subst this; simp [run_bound _ (show h ≤ c by omega)]
              | some v => obtain ⟨k, rfl⟩ := bound_some el rl; simp [run_bound _ (show h ≤ c by omega), run_bound _ h1]
        | some v =>
          obtain ⟨k, rfl⟩ := bound_some em rm
          cases mx with
          | none => exact rm.elim
          | some mx =>
            cases vhi with
            | none =>
              cases hi with
              | none => simp at hc
              | some _ => exact rh.elim
            | some v =>
              obtain ⟨k, rfl⟩ := bound_some eh rh
              cases vlo with
              | none => have := bound_none el rl; subst this; simp [run_bound _ (show m ≤ c by omega), run_bound _ h2]
              | some v => obtain ⟨k, rfl⟩ := bound_some el rl; simp [run_bound _ (show m ≤ c by omega), run_bound _ h2, run_bound _ h1]
  · cases e

theorem byte_extract (s : List UInt8) (l h : Nat) : (⟨⟨s⟩⟩ : ByteArray).extract l h = ⟨⟨(s.drop l).take (h - l)⟩⟩ := by
  apply ByteArray.ext
  simp [ByteArray.data_extract, List.extract_eq_take_drop]

theorem sliceS_sound {t : TypeId} (hu : C.P.underlying t = some .string) {x a : AV} {v : Value} {lo hi mx : Option AV} {vlo vhi vmx : Option Value} (e : sliceS x lo hi mx = some a) (r : Rel w F x μ v)
    (rl : RelO w F μ lo vlo) (rh : RelO w F μ hi vhi) (rm : RelO w F μ mx vmx) : ∃ u, (Instr.sliceAt t v vlo vhi vmx).run C.P w = .ok u w ∧ Rel w F a μ u := by
  unfold sliceS at e
  split at e
  · rename_i s
    cases mx with
    | some _ => simp at e
    | none =>
      cases vmx with
      | some _ => exact rm.elim
      | none =>
        simp only [Option.isNone_none, cond_true, lenN_eq] at e
        split at e
        · rename_i l h' m eb
          cases e
          obtain ⟨c1, c2, c3, c4, hb⟩ := run_bounds (P := C.P) (isS := false) rl rh rm eb (Nat.le_refl _)
          rw [rel_str r, takeN_eq, dropN_eq]
          refine ⟨.string ⟨⟨(s.drop l).take (h' - l)⟩⟩, ?_, mk_str _⟩
          have hsz : (⟨⟨s⟩⟩ : ByteArray).size = s.length := rfl
          unfold Instr.sliceAt
          simp only [Sem.run_bind, run_underlying hu, Result.andThen_ok]
          unfold Instr.slice
          simp only [Sem.run_bind, run_underlying hu, Result.andThen_ok, hsz]
          simp [hb, byte_extract]
        · cases e
  · cases e

theorem sliceV_sound {t el : TypeId} (hu : C.P.underlying t = some (.slice el)) {inf : TypeInfo} (hinf : C.P.info? el = some inf) {x a : AV} {v : Value} {lo hi mx : Option AV} {vlo vhi vmx : Option Value}
    (e : sliceV inf.size x lo hi mx = some a) (r : Rel w F x μ v)
    (rl : RelO w F μ lo vlo) (rh : RelO w F μ hi vhi) (rm : RelO w F μ mx vmx) : ∃ u, (Instr.sliceAt t v vlo vhi vmx).run C.P w = .ok u w ∧ Rel w F a μ u := by
  have go : ∀ (ad : Option Addr) (len c l hh m : Nat), v = .slice ad len c → (Instr.sliceBounds true len c vlo vhi vmx).run C.P w = .ok (l, hh, m) w →
      (Instr.sliceAt t v vlo vhi vmx).run C.P w = .ok (.slice (if m = l then ad else ad.map (·.add (l * inf.size))) (hh - l) (m - l)) w := by
    intro ad len c l hh m hv hb
    subst hv
    unfold Instr.sliceAt
    simp only [Sem.run_bind, run_underlying hu, Result.andThen_ok]
    unfold Instr.slice
    simp only [Sem.run_bind, run_underlying hu, Result.andThen_ok]
    simp [hb, run_size hinf]
  unfold sliceV at e
  split at e
  · split at e
    · rename_i lhm eb
      obtain ⟨l, h', m⟩ := lhm
      cases e
      obtain ⟨c1, c2, c3, c4, hb⟩ := run_bounds (P := C.P) (isS := true) rl rh rm eb (Nat.le_refl 0)
      unfold Rel at r
      have g := go none 0 0 _ _ _ r hb
      have hm : m = 0 := by omega
      subst hm
      have hl : l = 0 := by omega
      have hh : h' = 0 := by omega
      subst hl; subst hh
      refine ⟨_, g, ?_⟩
      cases mx <;> (unfold Rel; simp)
    · cases e
  · rename_i id off es len cap ex
    cases hes : Nat.beq es inf.size with
    | false => simp only [hes, cond_false] at e; cases e
    | true =>
      simp only [hes, cond_true] at e
      have hes' := of_beq hes
      subst hes'
      split at e
      · rename_i l h' m eb
        cases e
        unfold Rel at r
        obtain ⟨b, o, ad, c, hm, hv, h1, h2, h3, h4⟩ := r
        obtain ⟨c1, c2, c3, c4, hb⟩ := run_bounds (P := C.P) (isS := true) rl rh rm eb h2
        refine ⟨_, go (some ad) len c _ _ _ hv hb, ?_⟩
        have hM : m ≤ (if mx.isSome then m else c) ∧ (if mx.isSome then m else c) ≤ c := by split <;> omega
        have hX : (ex || mx.isSome) = true → (if mx.isSome then m else c) = m := by
          intro hx
          cases hmx : mx.isSome with
          | true => simp
          | false => simp [hmx] at hx; simp; rw [h3 hx, c4 hmx]
        generalize (if mx.isSome = true then m else c) = M at *
        unfold Rel
        refine ⟨b, o, if M = l then ad else ad.add (l * inf.size), M - l, hm, ?_, Nat.sub_le_sub_right c2 l, Nat.sub_le_sub_right hM.1 l, fun hx => by rw [hX hx]; rfl, fun hne => ?_⟩
        · congr 1; split <;> rfl
        · have hMl : M ≠ l := by intro e; apply hne; omega
          obtain ⟨rfl, cells, el', fr, q1, q2⟩ := h4 (by omega)
          rw [if_neg hMl, addr_add]
          refine ⟨by simp [Nat.add_assoc], cells, el', fr, q1, ?_⟩
          have : l * inf.size + (M - l) * inf.size = M * inf.size := by rw [← Nat.add_mul]; congr 1; omega
          have h5 : M * inf.size ≤ c * inf.size := Nat.mul_le_mul_right _ hM.2
          show o + (off + l * inf.size) + (M - l) * inf.size ≤ cells.size
          omega
      · cases e
  · rename_i cs off len cap ex
    split at e
    · rename_i l h' m eb
      cases e
      unfold Rel at r
      obtain ⟨b, o, ad, c, hF, hv, h1, h2, h3, h4, h5⟩ := r
      obtain ⟨c1, c2, c3, c4, hb⟩ := run_bounds (P := C.P) (isS := true) rl rh rm eb h2
      refine ⟨_, go (some ad) len c _ _ _ hv hb, ?_⟩
      have hM : m ≤ (if mx.isSome then m else c) ∧ (if mx.isSome then m else c) ≤ c := by split <;> omega
      have hX : (ex || mx.isSome) = true → (if mx.isSome then m else c) = m := by
        intro hx
        cases hmx : mx.isSome with
        | true => simp
        | false => simp [hmx] at hx; simp; rw [h3 hx, c4 hmx]
      generalize (if mx.isSome = true then m else c) = M at *
      unfold Rel
      refine ⟨b, o, if M = l then ad else ad.add (l * inf.size), M - l, hF, ?_, Nat.sub_le_sub_right c2 l, Nat.sub_le_sub_right hM.1 l, fun hx => by rw [hX hx]; rfl, fun hne => ?_, h5⟩
      · congr 1; split <;> rfl
      · have hMl : M ≠ l := by intro e; apply hne; omega
        obtain rfl := h4 (by omega)
        rw [if_neg hMl, addr_add]
        simp [Nat.add_assoc]
    · cases e
  · rename_i pt k ex
    cases hes : Nat.beq inf.size (width pt) with
    | false => simp only [hes, Bool.not_false, cond_true] at e; cases e
    | true =>
    simp only [hes, Bool.not_true, cond_false] at e
    have hw := of_beq hes
    split at e
    · rename_i l h' m eb
      have key : ∀ (c : Nat) (ad : Option Addr), v = .slice ad k.length c → k.length ≤ c → (k = [] ∧ ad = none ∧ c = 0 ∨ ∃ b o a, ad = some a ∧ F b ∧ (c ≠ 0 → a = ⟨b, o, none⟩) ∧ ∀ i x, k[i]? = some x → RelC w F (avT pt x) b (o + i * width pt)) →
          ∀ (k' : List (El pt)) (ex' : Bool), (∀ (i : Nat) x, k'[i]? = some x → k[l + i]? = some x) → k'.length = h' - l → (ex' = true → (if mx.isSome then m else c) = h') →
          ∃ u, (Instr.sliceAt t v vlo vhi vmx).run C.P w = .ok u w ∧ Rel w F (.slT pt k' ex') μ u := by
        intro c ad hv hc hk k' ex' hk' hl' hx'
        obtain ⟨c1, c2, c3, c4, hb⟩ := run_bounds (P := C.P) (isS := true) rl rh rm eb hc
        refine ⟨_, go ad k.length c _ _ _ hv hb, ?_⟩
        have hM : m ≤ (if mx.isSome then m else c) ∧ (if mx.isSome then m else c) ≤ c := by split <;> omega
        generalize (if mx.isSome = true then m else c) = M at *
        refine mk_slT ?_
        rcases hk with ⟨hk, rfl, rfl⟩ | ⟨b, o, a, rfl, hF, ha, hR⟩
        · left
          have h0 : M = 0 := by omega
          have h1 : l = 0 := by omega
          have h2 : h' = 0 := by omega
          subst h0 h1 h2
          exact ⟨List.length_eq_zero_iff.1 (by omega), rfl⟩
        · right
          refine ⟨b, o + l * width pt, if M = l then a else a.add (l * inf.size), M - l, hF, ?_, by omega, fun hx => by rw [hx' hx]; omega, fun hne => ?_, fun i x hi => ?_⟩
          · rw [hl']; congr 1; split <;> rfl
          · have hMl : M ≠ l := by intro e; apply hne; omega
            obtain rfl := ha (by omega)
            rw [if_neg hMl, addr_add, hw]
          · have := hR (l + i) x (hk' i x hi)
            rw [show o + l * width pt + i * width pt = o + (l + i) * width pt by rw [Nat.add_mul]; omega]
            exact this
      have base : ∃ (c : Nat) (ad : Option Addr), v = .slice ad k.length c ∧ k.length ≤ c ∧ (ex = true → c = k.length) ∧ (k = [] ∧ ad = none ∧ c = 0 ∨ ∃ b o a, ad = some a ∧ F b ∧ (c ≠ 0 → a = ⟨b, o, none⟩) ∧ ∀ i x, k[i]? = some x → RelC w F (avT pt x) b (o + i * width pt)) := by
        rcases inv_slT r with ⟨h0, hv⟩ | ⟨b, o, ad, c, hF, hv, h1, h2, h3, h4⟩
        · subst h0; exact ⟨0, none, hv, Nat.le_refl _, fun _ => rfl, .inl ⟨rfl, rfl, rfl⟩⟩
        · exact ⟨c, some ad, hv, h1, h2, .inr ⟨b, o, ad, rfl, hF, h3, h4⟩⟩
      obtain ⟨c, ad, hv, hc, hx, hk⟩ := base
      obtain ⟨c1, c2, c3, c4, -⟩ := run_bounds (P := C.P) (isS := true) rl rh rm eb hc
      have get1 : ∀ (i : Nat) x, ((k.take h').drop l)[i]? = some x → k[l + i]? = some x := by
        intro i x hi
        rw [List.getElem?_drop, List.getElem?_take] at hi
        split at hi
        · exact hi
        · cases hi
      have len1 : h' ≤ k.length → ((k.take h').drop l).length = h' - l := by intro hh; simp; omega
      have hcut : h' ≤ k.length ∧ m ≤ k.length := by
        unfold boundsA at eb
        split at eb
        · rename_i a1 a2 a3 _ _ _
          cases hcc : (cutOk a1 a2 a3 k.length && (mx.isNone || hi.isSome)) with
          | false => rw [hcc] at eb; cases eb
          | true =>
            rw [hcc] at eb; cases eb
            unfold cutOk at hcc
            simp only [Bool.and_eq_true] at hcc
            have q1 := Nat.le_of_ble_eq_true hcc.1.1
            have q2 := Nat.le_of_ble_eq_true hcc.1.2.1
            omega
        · cases eb
      split at e
      · rename_i mv
        cases e
        exact key c ad hv hc hk _ _ get1 (len1 hcut.1) (fun hb => by simp; exact (of_beq hb).symm)
      · split at e
        · cases e
          exact key c ad hv hc hk _ _ get1 (len1 hcut.1) (fun hb => by cases hb)
        · cases e
          have hh : h' = k.length := by
            unfold boundsA at eb
            split at eb
            · rename_i a1 a2 a3 _ e2 _
              cases hcc : (cutOk a1 a2 a3 k.length && (Option.isNone (none : Option AV) || Option.isSome (none : Option AV))) with
              | false => rw [hcc] at eb; cases eb
              | true =>
                rw [hcc] at eb; cases eb
                unfold boundA at e2; cases e2; rfl
            · cases eb
          refine key c ad hv hc hk _ _ (fun i x hi => by rw [List.getElem?_drop] at hi; exact hi) (by simp [hh]) (fun hb => ?_)
          simp only [Option.isSome_none, Bool.false_eq_true, if_false]
          rw [hx hb, hh]
    · cases e
  · cases e

theorem sliceArr_sound (H : HRel w F μ h) {t el : TypeId} {n : Nat} (hu : C.P.underlying t = some (.array n el)) {inf : TypeInfo} (hinf : C.P.info? el = some inf) {x a : AV} {v : Value} {lo hi : Option AV} {vlo vhi : Option Value}
    (e : sliceArr inf.size n x lo hi = some a) (r : Rel w F x μ v) (hc : ∀ id off, x = .ptrO id off → ∃ b o cells el fr, μ id = some (b, o) ∧ w.heap[b]? = some (.cells cells el fr) ∧ o + off + n * inf.size ≤ cells.size)
    (rl : RelO w F μ lo vlo) (rh : RelO w F μ hi vhi) : ∃ u, (Instr.sliceAt t v vlo vhi none).run C.P w = .ok u w ∧ Rel w F a μ u := by
  unfold sliceArr at e
  split at e
  · rename_i l h' m eb
    obtain ⟨c1, c2, c3, c4, hb⟩ := run_bounds (P := C.P) (isS := false) (c := n) (vmx := none) (mx := none) rl rh (show RelO w F μ none none from trivial) eb (Nat.le_refl n)
    simp at hb
    have hml : m = n := c4 rfl
    split at e
    · rename_i id off
      cases e
      obtain ⟨b, o, cells, el', fr, k1, k2, k3⟩ := hc id off rfl
      unfold Rel at r
      obtain ⟨b', o', hm, rfl⟩ := r
      rw [hm] at k1; cases k1
      refine ⟨.slice (some (if n = l then ⟨b, o + off, none⟩ else ⟨b, o + off + l * inf.size, none⟩)) (h' - l) (n - l), ?_, ?_⟩
      · unfold Instr.sliceAt
        simp [run_underlying hu, Instr.sureAddr, hb, run_size hinf, addr_add]
      · unfold Rel
        refine ⟨b, o, _, _, hm, rfl, by show h' - l ≤ n - l; omega, Nat.le_refl _, fun _ => rfl, fun hne => ?_⟩
        have : n ≠ l := by intro e; apply hne; omega
        rw [if_neg this]
        refine ⟨by simp [Nat.add_assoc], cells, el', fr, k2, ?_⟩
        have : l * inf.size + (n - l) * inf.size = n * inf.size := by rw [← Nat.add_mul]; congr 1; omega
        show o + (off + l * inf.size) + (n - l) * inf.size ≤ cells.size
        omega
    · rename_i cs off
      cases e
      unfold Rel at r
      obtain ⟨b, o, hF, rfl, hcs⟩ := r
      refine ⟨.slice (some (if n = l then ⟨b, o + off, none⟩ else ⟨b, o + off + l * inf.size, none⟩)) (h' - l) (n - l), ?_, ?_⟩
      · unfold Instr.sliceAt
        simp [run_underlying hu, Instr.sureAddr, hb, run_size hinf, addr_add]
      · unfold Rel
        refine ⟨b, o, _, _, hF, rfl, by show h' - l ≤ n - l; omega, Nat.le_refl _, fun _ => rfl, fun hne => ?_, hcs⟩
        have : n ≠ l := by intro e; apply hne; omega
        rw [if_neg this]
        simp [Nat.add_assoc]
    · cases e
  · cases e
end
end
end Go.Abs
namespace Go.Abs
noncomputable section
open Go
section
variable {C : Cfg} {w : World} {F : Nat → Prop} {μ : Map} {h : Heap}
/-! ### new blocks -/
theorem plain_cells {x : AV} {v : Value} (hp : plainA x = true) (r : Rel w F x μ v) : RelL w F x.cells μ v.cells.toList ∧ ∀ y ∈ v.cells.toList, one y = true := by
  have single : ∀ {x : AV}, x.cells = [x] → Rel w F x μ v → one v = true → RelL w F x.cells μ v.cells.toList ∧ ∀ y ∈ v.cells.toList, one y = true := by
    intro x hx r ho
    have hv : v.cells = #[v] := by cases v <;> first | rfl | cases ho
    rw [hx, hv]
    refine ⟨?_, by simpa using ho⟩
    unfold RelL
    exact ⟨v, [], rfl, r, by unfold RelL; rfl⟩
  cases x with
  | dead => cases hp
  | tup _ => cases hp
  | agg cs =>
    obtain ⟨vs, rfl, h1, h2⟩ := rel_agg r
    exact ⟨h1, h2⟩
  | bool _ => exact single rfl r (by unfold Rel at r; subst r; rfl)
  | int _ _ => exact single rfl r (by unfold Rel at r; subst r; rfl)
  | str _ => exact single rfl r (by unfold Rel at r; subst r; rfl)
  | nilp => exact single rfl r (by unfold Rel at r; subst r; rfl)
  | ptrO _ _ => exact single rfl r (by unfold Rel at r; obtain ⟨_, _, _, rfl⟩ := r; rfl)
  | ptrR _ _ => exact single rfl r (by unfold Rel at r; obtain ⟨_, _, _, rfl, _⟩ := r; rfl)
  | nils => exact single rfl r (by unfold Rel at r; subst r; rfl)
  | slO _ _ _ _ _ _ => exact single rfl r (by unfold Rel at r; obtain ⟨_, _, _, _, _, rfl, _⟩ := r; rfl)
  | slR _ _ _ _ _ => exact single rfl r (by unfold Rel at r; obtain ⟨_, _, _, _, _, rfl, _⟩ := r; rfl)
  | slT _ _ _ => exact single rfl r (by obtain ⟨_, _, rfl⟩ := slT_val r; rfl)
  | fn _ _ _ => exact single rfl r (by unfold Rel at r; obtain ⟨_, _, _, rfl, _⟩ := r; rfl)
  | nilf => exact single rfl r (by unfold Rel at r; subst r; rfl)
  | ifc _ _ => exact single rfl r (by unfold Rel at r; obtain ⟨_, rfl, _⟩ := r; rfl)
  | nili => exact single rfl r (by unfold Rel at r; subst r; rfl)

theorem get_new (h : Heap) (el : Nat) (whole : Bool) (as : List AV) (j : Nat) : (h.new el whole as).get j = if j = h.next then some (newBlk h.next el whole as) else h.get j := by
  unfold Heap.new
  rw [Heap.get_add]
theorem next_new (h : Heap) (el : Nat) (whole : Bool) (as : List AV) : (h.new el whole as).next = h.next + 1 := rfl

/-- a new row of cells (the first of which are known), frozen behind its end or nowhere -/
theorem newFr_sound (H : HRel w F μ h) (el : TypeId) (whole : Bool) (fr : Nat × Nat) {as : List AV} {cells : Array Value} (hl : ∀ (i : Nat) a, as[i]? = some a → ∃ v, cells[i]? = some v ∧ Rel w F a μ v) (hle : as.length ≤ cells.size) (h1 : ∀ x ∈ cells.toList, one x = true)
    (hw : whole = true → cells.size = as.length) (hfr : ∀ i, i < cells.size → ¬ (fr.1 ≤ i ∧ i < fr.2)) :
    HRel (w.alloc (.cells cells el fr)) F (μ.set h.next (w.heap.size, 0)) (h.new el whole as) ∧ Go.Abs.Next w F μ (w.alloc (.cells cells el fr)) F (μ.set h.next (w.heap.size, 0)) := by
  have N := Next.allocAt w F μ (.cells cells el fr) H.dom H.none_next
  have K := N.keeps H
  refine ⟨H.addAt (b := newBlk h.next el whole as) (.cells cells el fr) H.none_next (get_new h el whole as) (by rw [next_new]; omega) (by rw [next_new]; omega) ?_ ?_ ?_ ?_, N⟩
  · intro _
    refine ⟨cells, el, fr, by rw [heap_alloc_new], by simpa [newBlk] using hle, ?_, ?_, fun _ => hfr⟩
    · intro i a hi
      obtain ⟨v, q1, q2⟩ := hl i a hi
      exact ⟨v, by simpa using q1, Rel.mono a K v q2⟩
    · intro i v hi
      exact h1 v (List.mem_of_getElem? (by simpa using hi))
  · intro _; exact ⟨cells, fr, rfl, hw⟩
  · intro s p hk; cases hk
  · intro n tm ps x y j st hk; cases hk

/-- a new row of cells (the first of which are known) -/
theorem new_sound (H : HRel w F μ h) (el : TypeId) (whole : Bool) {as : List AV} {cells : Array Value} (hl : ∀ (i : Nat) a, as[i]? = some a → ∃ v, cells[i]? = some v ∧ Rel w F a μ v) (hle : as.length ≤ cells.size) (h1 : ∀ x ∈ cells.toList, one x = true)
    (hw : whole = true → cells.size = as.length) :
    HRel (w.alloc (.cells cells el)) F (μ.set h.next (w.heap.size, 0)) (h.new el whole as) ∧ Go.Abs.Next w F μ (w.alloc (.cells cells el)) F (μ.set h.next (w.heap.size, 0)) :=
  newFr_sound H el whole (0, 0) hl hle h1 hw (fun i _ => by simp)

theorem relL_get {as : List AV} {vs : List Value} (r : RelL w F as μ vs) {i : Nat} {a : AV} (hi : as[i]? = some a) : ∃ v, vs[i]? = some v ∧ Rel w F a μ v := (RelL.get r).2 i a hi

theorem newVar_sound (H : HRel w F μ h) (t : TypeId) {as : List AV} {v : Value} (r : RelL w F as μ v.cells.toList) (h1 : ∀ x ∈ v.cells.toList, one x = true) :
    OpOk C w F μ (do pure (.value (.pointer (some (← newVar t v))))) (.ptrO h.next 0) (h.new t true as) := by
  have hlen := (RelL.get r).1
  obtain ⟨H', N⟩ := new_sound H t true (cells := v.cells) (fun i a hi => by simpa using relL_get r hi) (by simp at hlen; omega) h1 (fun _ => by simp at hlen; omega)
  refine ⟨.value (.pointer (some ⟨w.heap.size, 0, none⟩)), _, _, by simp [newVar, newRow], .inl ⟨_, rfl, ?_⟩, N, H'⟩
  unfold Rel
  exact ⟨w.heap.size, 0, Map.set_same _ _ _, rfl⟩

theorem alloc_sound (H : HRel w F μ h) {t : TypeId} {a : AV} {h' : Heap} (e : opAlloc C h t = some (a, h')) : OpOk C w F μ (do pure (.value (← Instr.alloc t true (.tuple #[])))) a h' := by
  unfold opAlloc at e
  split at e
  · rename_i z hz
    cases e
    obtain ⟨i, v, hi, hzv, r, h1, _⟩ := rel_zero (w := w) (F := F) (μ := μ) hz
    obtain ⟨nx, w', μ', q1, q2⟩ := newVar_sound (C := C) H t r h1
    refine ⟨nx, w', μ', ?_, q2⟩
    rw [← q1]
    simp [Instr.alloc, run_zero hi hzv]
  · cases e

theorem box_sound (H : HRel w F μ h) {t : TypeId} {x a : AV} {v : Value} {h' : Heap} (r : Rel w F x μ v) (e : opBox h t x = some (a, h')) : OpOk C w F μ (do pure (.value (← Instr.box t v))) a h' := by
  unfold opBox at e
  cases hp : plainA x with
  | false => rw [hp] at e; cases e
  | true =>
    rw [hp] at e; cases e
    obtain ⟨r', h1⟩ := plain_cells hp r
    obtain ⟨nx, w', μ', q1, q2⟩ := newVar_sound (C := C) H t r' h1
    refine ⟨nx, w', μ', ?_, q2⟩
    rw [← q1]
    simp [Instr.box]

/-! ### literals of several parts -/
def RelP (w : World) (F : Nat → Prop) (μ : Map) : List (Nat × AV) → List (Nat × Value) → Prop
  | [], [] => True
  | (i, a) :: l, (j, v) :: m => i = j ∧ Rel w F a μ v ∧ RelP w F μ l m
  | _, _ => False

theorem relP_of {tm : T AV} {a : Act} (G : GRel C w F) (ht : TmR w F μ tm a.tmps) : ∀ l : List (Nat × Operand), RelP w F μ (evalParts C tm l) (l.map fun (i, x) => (i, a.eval x))
  | [] => trivial
  | (i, x) :: l => ⟨rfl, rel_operand G ht x, relP_of G ht l⟩

theorem fill_step (off : Nat) (v : Value) (cells : Array Value) :
    (v.cells.zipIdx.foldl (fun cs (x : Value × Nat) => cs.setIfInBounds (off + x.2) x.1) cells).size = cells.size ∧
    ∀ k, (v.cells.zipIdx.foldl (fun cs (x : Value × Nat) => cs.setIfInBounds (off + x.2) x.1) cells)[k]? = if off ≤ k ∧ k < off + v.cells.size ∧ k < cells.size then v.cells[k - off]? else cells[k]? := by
  rw [← Array.foldl_toList, Array.toList_zipIdx]
  obtain ⟨h1, h2⟩ := Great.foldl_set off v.cells.toList 0 cells
  refine ⟨h1, fun k => ?_⟩
  rw [h2]
  simp

theorem fill_sound {place place' : Nat → Option (Nat × Nat)} (hp : ∀ i x, place i = some x → place' i = some x) : ∀ (parts : List (Nat × AV)) (ps : List (Nat × Value)) (as as' : List AV) (cells : Array Value),
    fillA place parts as = some as' → RelP w F μ parts ps → RelL w F as μ cells.toList → (∀ x ∈ cells.toList, one x = true) →
    ∃ cells', Instr.fill place' cells ps = some cells' ∧ RelL w F as' μ cells'.toList ∧ (∀ x ∈ cells'.toList, one x = true) ∧ cells'.size = cells.size ∧ as'.length = as.length
  | [], ps, as, as', cells, e, rp, r, h1 => by
    cases ps with
    | nil => cases e; exact ⟨cells, rfl, r, h1, rfl, rfl⟩
    | cons _ _ => exact rp.elim
  | (i, x) :: parts, ps, as, as', cells, e, rp, r, h1 => by
    cases ps with
    | nil => exact rp.elim
    | cons p ps =>
      obtain ⟨j, v⟩ := p
      obtain ⟨rfl, rx, rp⟩ := rp
      unfold fillA at e
      split at e
      · cases e
      · rename_i off sz hpl
        cases hc : (plainA x && (Nat.beq (lenN x.cells) sz && Nat.ble (Nat.add off sz) (lenN as))) with
        | false => simp only [hc, cond_false] at e; cases e
        | true =>
          simp only [hc, cond_true] at e
          simp only [Bool.and_eq_true] at hc
          obtain ⟨c1, c2, c3⟩ := hc
          have c2 := Nat.eq_of_beq_eq_true c2
          have c3 : off + sz ≤ as.length := by have := Nat.le_of_ble_eq_true c3; rw [lenN_eq] at this; exact this
          rw [lenN_eq] at c2
          obtain ⟨rc, hone⟩ := plain_cells c1 rx
          have l1 := (RelL.get rc).1
          have l2 := (RelL.get r).1
          simp only [Array.length_toList] at l1 l2
          obtain ⟨s1, s2⟩ := fill_step off v cells
          have hr : RelL w F (setCells as off x.cells) μ (v.cells.zipIdx.foldl (fun cs (x : Value × Nat) => cs.setIfInBounds (off + x.2) x.1) cells).toList := by
            refine RelL.of (by rw [Array.length_toList (xs := Array.foldl _ _ _ _ _), s1, length_setCells]; exact l2) ?_
            intro k a hk
            rw [getElem?_setCells _ _ _ (by omega)] at hk
            rw [Array.getElem?_toList, s2]
            by_cases hin : off ≤ k ∧ k < off + x.cells.length
            · rw [if_pos hin] at hk
              rw [if_pos (by omega)]
              have := relL_get rc hk
              simpa using this
            · rw [if_neg hin] at hk
              rw [if_neg (by omega)]
              have := relL_get r hk
              simpa using this
          have ho : ∀ y ∈ (v.cells.zipIdx.foldl (fun cs (x : Value × Nat) => cs.setIfInBounds (off + x.2) x.1) cells).toList, one y = true := by
            intro y hy
            obtain ⟨k, hk⟩ := List.mem_iff_getElem?.1 hy
            rw [Array.getElem?_toList, s2] at hk
            split at hk
            · exact hone y (by rw [Array.mem_toList_iff]; exact Array.mem_of_getElem? hk)
            · exact h1 y (by rw [Array.mem_toList_iff]; exact Array.mem_of_getElem? hk)
          obtain ⟨cells', q1, q2, q3, q4, q5⟩ := fill_sound hp parts ps _ as' _ e rp hr ho
          refine ⟨cells', ?_, q2, q3, by rw [q4, s1], by rw [q5]; simp⟩
          unfold Instr.fill
          rw [hp _ _ hpl]
          simp only
          rw [if_neg (by simp; omega)]
          exact q1

theorem knownT_info {t : TypeId} (h : knownT C t = true) : ∃ i, C.P.info? t = some i := by
  unfold knownT at h
  obtain ⟨d, hd⟩ := Option.isSome_iff_exists.1 h
  exact underlying_info hd

theorem places_of : ∀ (fs : List Field), knownAll C fs = true → ∃ places : List (Nat × Nat), fs.mapM (fun f => (C.P.info? f.type).map fun i => (f.offset, i.size)) = some places ∧ ∀ i : Nat, places[i]? = (fs[i]?).map fun f : Field => (f.offset, sizeT C f.type)
  | [], _ => ⟨[], rfl, by simp⟩
  | f :: fs, h => by
    unfold knownAll at h
    simp only [List.all_cons, Bool.and_eq_true] at h
    obtain ⟨i, hi⟩ := knownT_info h.1
    obtain ⟨places, q1, q2⟩ := places_of fs h.2
    refine ⟨(f.offset, i.size) :: places, by simp [List.mapM_cons, hi, q1], ?_⟩
    intro k
    cases k with
    | zero => simp [sizeT_eq hi]
    | succ k => simpa using q2 k

theorem build_sound {t : TypeId} {parts : List (Nat × AV)} {ps : Array (Nat × Value)} {a : AV} (e : opBuild C t parts = some a) (rp : RelP w F μ parts ps.toList) : ∃ v, (Instr.build t ps).run C.P w = .ok v w ∧ Rel w F a μ v := by
  unfold opBuild at e
  split at e
  · rename_i z d hz hd
    obtain ⟨i, v, hi, hzv, r, h1, _⟩ := rel_zero (w := w) (F := F) (μ := μ) hz
    have fin : ∀ {place' : Nat → Option (Nat × Nat)}, (∀ i x, placeOf C d i = some x → place' i = some x) → (∀ cells, Instr.fill place' v.cells ps.toList = some cells → C.P.built t ps.toList = some cells) →
        (match fillA (placeOf C d) parts z with | some cs => some (AV.agg cs) | none => none) = some a → ∃ v, (Instr.build t ps).run C.P w = .ok v w ∧ Rel w F a μ v := by
      intro place' hp hb e
      split at e
      · rename_i cs hf
        cases e
        obtain ⟨cells, q1, q2, q3, _⟩ := fill_sound hp _ _ _ _ _ hf rp r h1
        refine ⟨_, run_build w t ps cells (hb cells q1), ?_⟩
        unfold Rel
        exact ⟨cells, rfl, q2, q3⟩
      · cases e
    cases d with
    | struct fs =>
      cases hk : knownAll C fs.toList with
      | false => simp only [hk, cond_false] at e; cases e
      | true =>
        simp only [hk, cond_true] at e
        obtain ⟨places, q1, q2⟩ := places_of fs.toList hk
        refine fin (place' := (places.toArray[·]?)) ?_ ?_ e
        · intro i x hx
          unfold placeOf at hx
          simp only at hx
          simp only [List.getElem?_toArray]
          rw [q2]
          simpa using hx
        · intro cells hc
          unfold Program.built
          simp only [hi, hd, hzv, q1]
          exact hc
    | array n el =>
      cases hk : knownT C el with
      | false => simp only [hk, cond_false] at e; cases e
      | true =>
        simp only [hk, cond_true] at e
        obtain ⟨ie, hie⟩ := knownT_info hk
        refine fin (place' := fun i => some (i * ie.size, ie.size)) ?_ ?_ e
        · intro i x hx
          unfold placeOf at hx
          simp only [sizeT_eq hie] at hx
          exact hx
        · intro cells hc
          unfold Program.built
          simp only [hi, hd, hzv, hie]
          exact hc
    | _ => cases e
  · cases e
end
end
end Go.Abs
namespace Go.Abs
noncomputable section
open Go
section
variable {C : Cfg} {w : World} {F : Nat → Prop} {μ : Map} {h : Heap}
theorem repCells_zero (z : List AV) : repCells z 0 = [] := rfl
theorem repCells_succ (z : List AV) (n : Nat) : repCells z (n + 1) = z ++ repCells z n := rfl
theorem length_repCells (z : List AV) : ∀ n, (repCells z n).length = n * z.length
  | 0 => by simp [repCells_zero]
  | n + 1 => by rw [repCells_succ, List.length_append, length_repCells z n, Nat.succ_mul, Nat.add_comm]

theorem get_repCells (z : List AV) : ∀ (n k : Nat), (repCells z n)[k]? = if k < n * z.length then z[k % z.length]? else none
  | 0, k => by simp [repCells_zero]
  | n + 1, k => by
    rw [repCells_succ, List.getElem?_append, Nat.succ_mul]
    by_cases h : k < z.length
    · rw [if_pos h, if_pos (by omega), Nat.mod_eq_of_lt h]
    · rw [if_neg h, get_repCells z n]
      have e : (k - z.length) % z.length = k % z.length := by
        conv => rhs; rw [show k = (k - z.length) + z.length by omega, Nat.add_mod_right]
      rw [e]
      by_cases h2 : k - z.length < n * z.length
      · rw [if_pos h2, if_pos (by omega)]
      · rw [if_neg h2, if_neg (by omega)]

theorem get_madeCells (z : Array Value) (n k : Nat) (h : k < n) : (madeCells z n)[k]? = some (z[k % z.size]!) := by
  simp [madeCells, h]

theorem rel_rep {z : List AV} {zs : Array Value} {s : Nat} (r : RelL w F z μ zs.toList) (h1 : ∀ x ∈ zs.toList, one x = true) (l1 : z.length = s) (l2 : zs.size = s) (n : Nat) :
    RelL w F (repCells z n) μ (madeCells zs (n * s)).toList ∧ ∀ x ∈ (madeCells zs (n * s)).toList, one x = true := by
  have key : ∀ k, k < n * s → zs[k % zs.size]? = some (zs[k % zs.size]!) := by
    intro k hk
    have hs : 0 < s := by
      rcases Nat.eq_zero_or_pos s with e | e
      · subst e; simp at hk
      · exact e
    have : k % zs.size < zs.size := Nat.mod_lt _ (by omega)
    rw [getElem!_pos zs _ this]
    simp [this]
  constructor
  · refine RelL.of (by rw [length_repCells, Array.length_toList (xs := madeCells _ _), size_madeCells, l1]) ?_
    intro k a hk
    rw [get_repCells, l1] at hk
    split at hk
    · rename_i hlt
      obtain ⟨v, q1, q2⟩ := relL_get r hk
      refine ⟨v, ?_, q2⟩
      rw [Array.getElem?_toList, get_madeCells _ _ _ hlt, ← key k hlt, l2]
      simpa using q1
    · cases hk
  · intro x hx
    obtain ⟨k, hk⟩ := List.mem_iff_getElem?.1 hx
    rw [Array.getElem?_toList] at hk
    have hlt : k < n * s := by
      have := (Array.getElem?_eq_some_iff.1 hk).1
      simpa [size_madeCells] using this
    rw [get_madeCells _ _ _ hlt, ← key k hlt] at hk
    exact h1 x (by rw [Array.mem_toList_iff]; exact Array.mem_of_getElem? hk)

/-- a new row and a slice over it -/
theorem newSlice_sound (H : HRel w F μ h) (el : TypeId) (whole : Bool) {as : List AV} {cells : Array Value} (hl : RelL w F as μ cells.toList) (h1 : ∀ x ∈ cells.toList, one x = true) {len cap es : Nat} {ex : Bool} (hlen : len ≤ cap) (hsz : cap * es ≤ cells.size) {s : Sem Value}
    (hr : s.run C.P w = .ok (.slice (some ⟨w.heap.size, 0, none⟩) len cap) (w.alloc (.cells cells el))) : OpOk C w F μ (do pure (.value (← s))) (.slO h.next 0 es len cap ex) (h.new el whole as) := by
  have hl1 := (RelL.get hl).1
  simp only [Array.length_toList] at hl1
  obtain ⟨H', N⟩ := new_sound H el whole (cells := cells) (fun i a hi => by simpa using relL_get hl hi) (by omega) h1 (fun _ => by omega)
  refine ⟨.value (.slice (some ⟨w.heap.size, 0, none⟩) len cap), _, _, by simp [hr], .inl ⟨_, rfl, ?_⟩, N, H'⟩
  unfold Rel
  exact ⟨w.heap.size, 0, _, cap, Map.set_same _ _ _, rfl, hlen, Nat.le_refl _, fun _ => rfl, fun _ => ⟨rfl, cells, el, (0, 0), by rw [heap_alloc_new], by simpa using hsz⟩⟩

theorem natOf_int {x : AV} {n : Nat} {v : Value} (e : natOf x = some n) (r : Rel w F x μ v) : ∃ k, v = .int k n := by
  unfold natOf at e
  split at e
  · cases e; exact ⟨_, rel_int r⟩
  · cases e

theorem room_of {n b : Nat} (e : roomOk n b = true) : n * b ≤ 140737488355328 ∧ n ≤ 4611686018427387904 := by
  unfold roomOk at e
  rw [Bool.and_eq_true] at e
  exact ⟨Nat.le_of_ble_eq_true e.1, Nat.le_of_ble_eq_true e.2⟩

theorem makeSlice_sound (H : HRel w F μ h) {t : TypeId} {l c a : AV} {vl vc : Value} {h' : Heap} (rl : Rel w F l μ vl) (rc : Rel w F c μ vc) (e : opMakeSlice C h t l c = some (a, h')) : OpOk C w F μ (do pure (.value (← Instr.makeSlice t vl vc))) a h' := by
  unfold opMakeSlice at e
  split at e
  · rename_i el l c hu hl hc
    cases hb : (Nat.ble l c && roomOk c (bytesT C el)) with
    | false => simp only [hb, cond_false] at e; cases e
    | true =>
      simp only [hb, cond_true] at e
      rw [Bool.and_eq_true] at hb
      have hlc := Nat.le_of_ble_eq_true hb.1
      obtain ⟨hroom, h62⟩ := room_of hb.2
      split at e
      · rename_i z hz
        cases e
        obtain ⟨i, v, hi, hzv, r, h1, l1, l2⟩ := rel_zero (w := w) (F := F) (μ := μ) hz
        obtain ⟨k1, rfl⟩ := natOf_int hl rl
        obtain ⟨k2, rfl⟩ := natOf_int hc rc
        obtain ⟨r1, o1⟩ := rel_rep r h1 l1 l2 c
        have hbt : bytesT C el = i.bytes := by simp [bytesT, hi]
        rw [hbt] at hroom
        · have hm := run_make (P := C.P) w t el i v hu hi hzv k1 k2 l c (by omega) (by omega) (by have : ((i.bytes * c : Nat) : Int) ≤ 281474976710656 := by rw [Nat.mul_comm] at hroom; omega
                                                                                                  rwa [Int.natCast_mul] at this) (by omega)
          simp only [Int.toNat_natCast] at hm
          refine newSlice_sound H el true r1 o1 hlc ?_ hm
          rw [size_madeCells, sizeT_eq hi]
          exact Nat.le_refl _
      · cases e
  · cases e

theorem buildSlice_sound (H : HRel w F μ h) {t : TypeId} {len : Nat} {parts : List (Nat × AV)} {ps : Array (Nat × Value)} {a : AV} {h' : Heap} (e : opBuildSlice C h t len parts = some (a, h')) (rp : RelP w F μ parts ps.toList) :
    OpOk C w F μ (do pure (.value (← Instr.buildSlice t len ps))) a h' := by
  unfold opBuildSlice at e
  split at e
  · rename_i el hu
    split at e
    · rename_i z hz
      split at e
      · rename_i cs hf
        cases hb : Nat.ble (Nat.mul len (sizeT C el)) 16777216 with
        | false => simp only [hb, cond_false] at e; cases e
        | true =>
          simp only [hb, cond_true] at e
          cases e
          have hle : len * sizeT C el ≤ 16777216 := Nat.le_of_ble_eq_true hb
          obtain ⟨i, v, hi, hzv, r, h1, l1, l2⟩ := rel_zero (w := w) (F := F) (μ := μ) hz
          rw [sizeT_eq hi] at hle hf ⊢
          obtain ⟨r1, o1⟩ := rel_rep r h1 l1 l2 len
          obtain ⟨cells, q1, q2, q3, q4, q5⟩ := fill_sound (place' := fun k => some (k * i.size, i.size)) (fun _ _ e => e) _ _ _ _ _ hf rp r1 o1
          refine newSlice_sound H el true q2 q3 (Nat.le_refl _) (by rw [q4, size_madeCells]; exact Nat.le_refl _) ?_
          by_cases h0 : len * i.size = 0
          · have hm : (Array.range 0).map (fun x => (#[] : Array Value)[x % (#[] : Array Value).size]!) = madeCells v.cells 0 := by simp [madeCells]
            rw [h0] at q1
            have q1' : Instr.fill (fun k => some (k * i.size, i.size)) ((Array.range 0).map fun _ => (default : Value)) ps.toList = some cells := by
              rw [← q1]; congr 1
            simp [Instr.buildSlice, run_underlying hu, sizeOf, typeInfo, hi, h0, newRow, q1']
          · exact run_buildSlice w t el len ps cells i v hu hi hzv (by omega) h0 q1
      · cases e
    · cases e
  · cases e

theorem store_sound (H : HRel w F μ h) {t : TypeId} {p x a : AV} {vp vx : Value} {h' : Heap} (rp : Rel w F p μ vp) (rx : Rel w F x μ vx) (e : opStore C h t p x = some (a, h')) : OpOk C w F μ (do Instr.storeAt t vp vx; pure .skip) a h' := by
  unfold opStore at e
  split at e
  · rename_i id off
    cases hb : (plainA x && knownT C t && Nat.beq (lenN x.cells) (sizeT C t)) with
    | false => simp only [hb, cond_false] at e; cases e
    | true =>
      simp only [hb, cond_true] at e
      simp only [Bool.and_eq_true] at hb
      obtain ⟨⟨b1, b2⟩, b3⟩ := hb
      obtain ⟨i, hi⟩ := knownT_info b2
      have b3 := Nat.eq_of_beq_eq_true b3
      rw [lenN_eq, sizeT_eq hi] at b3
      split at e
      · rename_i h2 hs
        cases e
        obtain ⟨rc, h1⟩ := plain_cells b1 rx
        obtain ⟨c, o, hm, s1, s2, H', N, _⟩ := H.store hs rc h1
        have l1 := (RelL.get rc).1
        simp only [Array.length_toList] at l1
        unfold Rel at rp
        obtain ⟨b', o', hm', rfl⟩ := rp
        rw [hm] at hm'; cases hm'
        have hst := run_storeCells_cells (P := C.P) c (o + off) vx.cells.toList 0 w (by simpa using s1) (by simpa using s2) (by intro y hy; rw [one_eq]; exact h1 y hy)
        refine ⟨.skip, _, μ, ?_, .inr ⟨rfl, mk_unit⟩, N, H'⟩
        simp only [Nat.add_zero] at hst
        simp [Instr.storeAt, Instr.sureAddr, storeVar, run_size hi, show vx.cells.size = i.size by omega, hst]
      · cases e
  · cases e
end
end
end Go.Abs
namespace Go.Abs
noncomputable section
open Go
section
variable {C : Cfg} {w : World} {F : Nat → Prop} {μ : Map} {h : Heap}
theorem bytesCells_eq (s : List UInt8) : bytesCells s = s.map fun b => .int .u8 b.toNat := by
  induction s with
  | nil => rfl
  | cons b s ih => show _ :: bytesCells s = _; rw [ih]; rfl

theorem relL_bytes (s : List UInt8) : RelL w F (bytesCells s) μ (s.map fun b => Value.int .u8 b.toNat) := by
  rw [bytesCells_eq]
  induction s with
  | nil => unfold RelL; rfl
  | cons b s ih => simp only [List.map_cons]; unfold RelL; exact ⟨_, _, rfl, mk_int _ _, ih⟩

theorem rel_slO {id off es len cap : Nat} {ex : Bool} {v : Value} (r : Rel w F (.slO id off es len cap ex) μ v) : ∃ b o a c, μ id = some (b, o) ∧ v = .slice (some a) len c ∧ len ≤ cap ∧ cap ≤ c ∧ (ex = true → c = cap) ∧
      (c ≠ 0 → a = ⟨b, o + off, none⟩ ∧ ∃ cells el fr, w.heap[b]? = some (.cells cells el fr) ∧ o + off + c * es ≤ cells.size) := by unfold Rel at r; exact r
theorem rel_slR {cs : List AV} {off len cap : Nat} {ex : Bool} {v : Value} (r : Rel w F (.slR cs off len cap ex) μ v) : ∃ b o a c, F b ∧ v = .slice (some a) len c ∧ len ≤ cap ∧ cap ≤ c ∧ (ex = true → c = cap) ∧
      (c ≠ 0 → a = ⟨b, o + off, none⟩) ∧ RelC w F cs b o := by unfold Rel at r; exact r
theorem rel_nils {v : Value} (r : Rel w F .nils μ v) : v = .slice none 0 0 := by unfold Rel at r; exact r

/-- the cells of the first n elements of a slice -/
theorem firstSl_sound (H : HRel w F μ h) {size n m : Nat} {x : AV} {v : Value} {cs : List AV} (r : Rel w F x μ v) (e : firstA h size n x = some cs) (hm : lenA x = some m) (hn : n ≤ m) (hx : ∀ s, x ≠ .str s) :
    ∃ vs : List Value, vs.length = n * size ∧ RelL w F cs μ vs ∧ (∀ y ∈ vs, one y = true) ∧ ((v = .slice none 0 0 ∧ n = 0) ∨ ∃ a l c, v = .slice (some a) l c ∧ ∀ j u, vs[j]? = some u → w.cell? (a.add j) = some u) := by
  unfold firstA at e
  split at e
  · cases e
    rw [show lenA AV.nils = some 0 from rfl] at hm
    cases hm
    obtain rfl : n = 0 := by omega
    exact ⟨[], by simp, by unfold RelL; rfl, (fun y hy => by cases hy), .inl ⟨rel_nils r, rfl⟩⟩
  · rename_i id off es len cap ex
    rw [show lenA (AV.slO id off es len cap ex) = some len from rfl] at hm
    cases hm
    obtain ⟨b, o, a, c, h1, rfl, h3, h4, h5, h6⟩ := rel_slO r
    by_cases hc : c = 0
    · obtain rfl : n = 0 := by omega
      simp only [Nat.zero_mul]
      unfold cellsAt at e
      split at e
      · cases e
      · rename_i bl hb
        cases hk : bl.kind.isRow with
        | false => rw [hk] at e; cases e
        | true =>
          rw [hk] at e
          simp only [cond_true, Nat.mul_eq, Nat.zero_mul] at e
          obtain ⟨k1, k2, k3⟩ := partN_some e
          simp at k2
          subst k2
          exact ⟨[], by simp, by unfold RelL; rfl, (fun y hy => by cases hy), .inr ⟨a, _, _, rfl, fun j u hj => by simp at hj⟩⟩
    · obtain ⟨rfl, _⟩ := h6 hc
      obtain ⟨b', o', vs, q1, q2, q3, q4, q5⟩ := read_sound (p := .ptrO id off) (v := .pointer (some ⟨b, o + off, none⟩)) H (by unfold Rel; exact ⟨b, o, h1, rfl⟩) (show readAt h (.ptrO id off) (n * size) = some cs from e)
      simp only [Value.pointer.injEq, Option.some.injEq, Addr.mk.injEq, and_true] at q1
      obtain ⟨rfl, rfl⟩ := q1
      exact ⟨vs, q2, q4, q5, .inr ⟨_, _, _, rfl, fun j u hj => by rw [addr_add]; exact q3 j u hj⟩⟩
  · rename_i cs0 off len cap ex
    rw [show lenA (AV.slR cs0 off len cap ex) = some len from rfl] at hm
    cases hm
    obtain ⟨b, o, a, c, h1, rfl, h3, h4, h5, h6, h7⟩ := rel_slR r
    by_cases hc : c = 0
    · obtain rfl : n = 0 := by omega
      simp only [Nat.mul_eq, Nat.zero_mul] at e ⊢
      obtain ⟨k1, k2, k3⟩ := partN_some e
      simp at k2
      subst k2
      exact ⟨[], by simp, by unfold RelL; rfl, (fun y hy => by cases hy), .inr ⟨a, _, _, rfl, fun j u hj => by simp at hj⟩⟩
    · obtain rfl := h6 hc
      obtain ⟨b', o', vs, q1, q2, q3, q4, q5⟩ := read_sound (p := .ptrR cs0 off) (v := .pointer (some ⟨b, o + off, none⟩)) (μ := μ) H (by unfold Rel; exact ⟨b, o, h1, rfl, h7⟩) (show readAt h (.ptrR cs0 off) (n * size) = some cs from e)
      simp only [Value.pointer.injEq, Option.some.injEq, Addr.mk.injEq, and_true] at q1
      obtain ⟨rfl, rfl⟩ := q1
      exact ⟨vs, q2, q4, q5, .inr ⟨_, _, _, rfl, fun j u hj => by rw [addr_add]; exact q3 j u hj⟩⟩
  · rename_i pt l ex
    rw [show lenA (AV.slT pt l ex) = some l.length from rfl] at hm
    cases hm
    cases hb : (Nat.beq size (width pt) && Nat.ble n l.length) with
    | false => simp only [hb, cond_false] at e; cases e
    | true =>
      simp only [hb, cond_true] at e
      simp only [Bool.and_eq_true] at hb
      have hw := of_beq hb.1
      rcases inv_slT r with ⟨h0, rfl⟩ | ⟨b, o, a, c, hF, rfl, h1, h2, h3, h4⟩
      · subst h0
        cases e
        obtain rfl : n = 0 := by simpa using hn
        refine ⟨[], by simp, ?_, (fun y hy => by cases hy), .inl ⟨rfl, rfl⟩⟩
        show RelL w F (flatT pt (([] : List (El pt)).take 0)) μ []
        rw [List.take_nil]; show RelL w F [] _ _; unfold RelL; rfl
      · by_cases hc : c = 0
        · obtain rfl : n = 0 := by omega
          cases e
          refine ⟨[], by simp, ?_, (fun y hy => by cases hy), .inr ⟨a, _, _, rfl, fun j u hj => by simp at hj⟩⟩
          show RelL w F [] _ _; unfold RelL; rfl
        · obtain rfl := h3 hc
          have hR := relC_flatT (l.take n) o fun i x hx => h4 i x (by rw [List.getElem?_take] at hx; split at hx <;> first | exact hx | cases hx)
          have hlen : (flatT pt (l.take n)).length = n * size := by rw [flatT_len, List.length_take, Nat.min_eq_left hn, hw]
          cases e
          obtain ⟨b', o', vs, q1, q2, q3, q4, q5⟩ := read_sound (p := .ptrR (flatT pt (l.take n)) 0) (v := .pointer (some ⟨b, o + 0, none⟩)) (μ := μ) (n := n * size) (cs := flatT pt (l.take n)) H (by unfold Rel; exact ⟨b, o, hF, rfl, hR⟩) (by
            show partN _ _ _ = _
            unfold partN
            simp only [lenN_eq, takeN_eq, dropN_eq]
            rw [show Nat.ble (Nat.add 0 (n * size)) (flatT pt (l.take n)).length = true from Nat.ble_eq_true_of_le (by rw [hlen]; show 0 + _ ≤ _; omega)]
            simp only [cond_true, List.drop_zero]
            rw [List.take_of_length_le (by rw [hlen]; exact Nat.le_refl _)])
          simp only [Nat.add_zero, Value.pointer.injEq, Option.some.injEq, Addr.mk.injEq, and_true] at q1
          obtain ⟨rfl, rfl⟩ := q1
          exact ⟨vs, q2, q4, q5, .inr ⟨_, _, _, rfl, fun j u hj => by rw [addr_add]; exact q3 j u hj⟩⟩
  · rename_i s; exact absurd rfl (hx s)
  · cases e

theorem bytesOf_sound : ∀ (cs : List AV) (s : List UInt8) (vs : List Value), bytesOf cs = some s → RelL w F cs μ vs → ∃ ns : List Int, vs = ns.map (Value.int .u8) ∧ s = ns.map fun n => UInt8.ofNat n.toNat
  | [], s, vs, e, r => by cases e; unfold RelL at r; subst r; exact ⟨[], rfl, rfl⟩
  | c :: cs, s, vs, e, r => by
    unfold bytesOf at e
    split at e
    · rename_i n
      split at e
      · rename_i s' hs
        cases e
        unfold RelL at r
        obtain ⟨v, vs, rfl, r1, r2⟩ := r
        obtain ⟨ns, rfl, rfl⟩ := bytesOf_sound cs s' vs hs r2
        exact ⟨n :: ns, by rw [rel_int r1]; rfl, rfl⟩
      · cases e
    · cases e

theorem foldl_push (ns : List Int) : ∀ b : ByteArray, ns.foldl (fun r n => r.push (UInt8.ofNat n.toNat)) b = ⟨⟨b.data.toList ++ ns.map fun n => UInt8.ofNat n.toNat⟩⟩ := by
  induction ns with
  | nil => intro b; simp
  | cons n ns ih =>
    intro b
    rw [List.foldl_cons, ih]
    simp [ByteArray.push]

theorem isU8_eq {d : Option TypeDesc} (e : isU8 d = true) : d = some (.int .u8) := by
  unfold isU8 at e
  split at e
  · rfl
  · cases e

theorem run_bytes (H : HRel w F μ h) {x : AV} {v : Value} {n : Nat} {cs : List AV} {s : List UInt8} (r : Rel w F x μ v) (hm : lenA x = some n) (e : firstA h 1 n x = some cs) (hb : bytesOf cs = some s) (hx : ∀ s, x ≠ .str s) :
    (Conv.bytesToString v).run C.P w = .ok (.string ⟨⟨s⟩⟩) w ∧ ∃ a l c, v = .slice a l c := by
  obtain ⟨vs, h1, h2, h3, h4⟩ := firstSl_sound H r e hm (Nat.le_refl n) hx
  obtain ⟨ns, rfl, rfl⟩ := bytesOf_sound _ _ _ hb h2
  rcases h4 with ⟨rfl, rfl⟩ | ⟨a, l, c, rfl, h5⟩
  · have : ns = [] := by simpa using h1
    subst this
    exact ⟨rfl, _, _, _, rfl⟩
  · have hl : l = n := by
      have := run_lenOf (C := C) hm r
      have e2 : (Builtin.lenOf (.slice (some a) l c)).run C.P w = .ok l w := rfl
      rw [e2] at this
      simpa using this
    subst hl
    refine ⟨?_, _, _, _, rfl⟩
    have hrow := run_loadCells_list (P := C.P) (w := w) a (ns.map (Value.int .u8)) h5
    rw [h1, Nat.mul_one] at hrow
    rw [run_bytesToString w a _ c ns hrow, foldl_push]
    rfl

theorem bytesWorld_eq (e : TypeId) (s : ByteArray) : Lib.bytesWorld w e s = ({ w with drawn := w.drawn + 1 } : World).alloc (.cells (Lib.bytesCells w e s) e ((Lib.bytesCells w e s).size, (Lib.bytesCells w e s).size + 1)) := by
  have hh : (Lib.bytesWorld w e s).heap = (w.heap.push (.cells (Lib.bytesCells w e s) e ((Lib.bytesCells w e s).size, (Lib.bytesCells w e s).size + 1))) := by
    apply Array.ext_getElem?
    intro i
    by_cases h1 : i < w.heap.size
    · rw [Lib.bytesWorld_at_old w e s i h1]; simp [Array.getElem?_push, Nat.ne_of_lt h1]
    · by_cases h2 : i = w.heap.size
      · subst h2; rw [Lib.bytesWorld_at_new]; simp
      · rw [Array.getElem?_eq_none (by rw [Lib.bytesWorld_size]; omega), Array.getElem?_eq_none (by simp; omega)]
  have : Lib.bytesWorld w e s = { Lib.bytesWorld w e s with heap := (Lib.bytesWorld w e s).heap } := rfl
  rw [this, hh]
  rfl

theorem strBytes_sound (H : HRel w F μ h) (el : TypeId) (s : List UInt8) {sm : Sem Value} (hr : sm.run C.P w = .ok (.slice (some ⟨w.heap.size, 0, none⟩) s.length (grownCap w s.length 0 el)) (Lib.bytesWorld w el ⟨⟨s⟩⟩)) :
    OpOk C w F μ (do pure (.value (← sm))) (.slO h.next 0 1 (lenN s) (lenN s) false) (h.new el false (bytesCells s)) := by
  rw [bytesWorld_eq] at hr
  have H1 := H.drew
  have hge : s.length ≤ grownCap w s.length 0 el := grownCap_ge w _ _ _
  have hsz : (Lib.bytesCells w el ⟨⟨s⟩⟩).size = grownCap w s.length 0 el := by
    simp [Lib.bytesCells]
    show s.length + (grownCap w s.length 0 el - s.length) = _
    omega
  have hlen : (bytesCells s).length = s.length := by rw [bytesCells_eq]; simp
  obtain ⟨H', N⟩ := newFr_sound H1 el false ((Lib.bytesCells w el ⟨⟨s⟩⟩).size, (Lib.bytesCells w el ⟨⟨s⟩⟩).size + 1) (as := bytesCells s) (cells := Lib.bytesCells w el ⟨⟨s⟩⟩) (by
      intro i a hi
      have hlt : i < s.length := by have := (List.getElem?_eq_some_iff.1 hi).1; omega
      obtain ⟨v, q1, q2⟩ := relL_get (w := { w with drawn := w.drawn + 1 }) (F := F) (μ := μ) (relL_bytes s) hi
      refine ⟨v, ?_, q2⟩
      rw [← q1]
      simp [Lib.bytesCells, Array.getElem?_append, hlt]) (by omega) (by
      intro x hx
      simp [Lib.bytesCells] at hx
      rcases hx with ⟨b, _, rfl⟩ | ⟨_, rfl⟩ <;> rfl) (by intro e; cases e) (by intro i hi; simp; omega)
  refine ⟨.value (.slice (some ⟨w.heap.size, 0, none⟩) s.length (grownCap w s.length 0 el)), _, _, by simp [hr], .inl ⟨_, rfl, ?_⟩, (Next.drew w F μ).trans N, H'⟩
  unfold Rel
  rw [lenN_eq]
  exact ⟨w.heap.size, 0, _, _, Map.set_same _ _ _, rfl, Nat.le_refl _, hge, (fun e => by cases e), fun _ => ⟨rfl, _, el, _, heap_alloc_new _ _, by rw [hsz]; omega⟩⟩

theorem run_seenAt_row {P : Program} {b o : Nat} {cells : Array Value} {el : TypeId} {fr : Nat × Nat} (hw : w.heap[b]? = some (.cells cells el fr)) : (Conv.seenAt ⟨b, o, none⟩).run P w = .ok ⟨b, o, none⟩ w := by
  simp [Conv.seenAt, viewAt, World.shape?, hw]

theorem convOut_sound (H : HRel w F μ h) {s d : TypeId} {x a : AV} {v : Value} {h' : Heap} (hd : C.P.underlying d = some .unsafePointer) (r : Rel w F x μ v) (e : convOut C h s x = some (a, h')) : (convert s d v).run C.P w = .ok v w ∧ Rel w F a μ v ∧ h' = h := by
  unfold convOut at e
  split at e
  · rename_i t hs
    split at e
    · rename_i id off
      split at e
      · rename_i b hb
        cases hc : (b.kind.isRow && (Nat.ble (Nat.succ off) (lenN b.cells) && !(Nat.beq (sizeT C t) 0) && knownT C t)) with
        | false => rw [hc] at e; cases e
        | true =>
          rw [hc] at e; cases e
          simp only [Bool.and_eq_true, Bool.not_eq_true'] at hc
          obtain ⟨c1, ⟨c2, c3⟩, c4⟩ := hc
          obtain ⟨i, hi⟩ := knownT_info c4
          have c2 := Nat.le_of_ble_eq_true c2
          rw [lenN_eq] at c2
          rw [sizeT_eq hi] at c3
          have c3 : i.size ≠ 0 := fun e => by rw [e] at c3; cases c3
          refine ⟨?_, r, rfl⟩
          unfold Rel at r
          obtain ⟨bb, o, hm, rfl⟩ := r
          obtain ⟨c, o', hm', cells, el, fr, hw, hsz, _⟩ := H.row id b hb (Kind.isRow_iff.1 c1)
          rw [hm] at hm'; cases hm'
          have hge : ¬ (cells.size ≤ o + off) := by omega
          simp [convert, run_underlying hs, run_underlying hd, Conv.unsafePointer, run_seenAt_row hw, cellsIn, World.shape?, hw, run_size hi, c3, hge]
      · cases e
    · cases e
  · cases e

theorem convBack_sound (H : HRel w F μ h) {s d u : TypeId} {x a : AV} {v : Value} {h' : Heap} (hd : C.P.underlying d = some (.pointer u)) (r : Rel w F x μ v) (e : convBack C h s u x = some (a, h')) : (convert s d v).run C.P w = .ok v w ∧ Rel w F a μ v ∧ h' = h := by
  unfold convBack at e
  split at e
  · rename_i hs
    split at e
    · rename_i id off
      split at e
      · rename_i b hb
        cases hc : (b.kind.isRow && (b.whole && knownT C u && liesAt C.P C.P.depth b.el (lenN b.cells / C.P.cellsOf b.el) off u 1)) with
        | false => rw [hc] at e; cases e
        | true =>
          rw [hc] at e; cases e
          simp only [Bool.and_eq_true] at hc
          obtain ⟨c1, ⟨c2, c3⟩, c4⟩ := hc
          obtain ⟨i, hi⟩ := knownT_info c3
          refine ⟨?_, r, rfl⟩
          unfold Rel at r
          obtain ⟨bb, o, hm, rfl⟩ := r
          obtain ⟨cells, fr, hw, hwh⟩ := H.typ id b hb (Kind.isRow_iff.1 c1) bb o hm
          obtain ⟨rfl, hsz⟩ := hwh c2
          rw [lenN_eq, ← hsz] at c4
          simp [convert, run_underlying hs, run_underlying hd, Conv.unsafePointer, run_seenAt_row hw, variablesAt, World.shape?, hw, run_size hi, c4]
      · cases e
    · cases e
  · cases e

theorem convert_sound (H : HRel w F μ h) {s d : TypeId} {x a : AV} {v : Value} {h' : Heap} (r : Rel w F x μ v) (e : opConvert C h s d x = some (a, h')) : OpOk C w F μ (do pure (.value (← convert s d v))) a h' := by
  unfold opConvert at e
  cases hsk : C.P.underlying s with
  | none => simp [hsk] at e
  | some us =>
    simp only [hsk, Option.isSome_some, Bool.not_true, cond_false] at e
    split at e
    · rename_i k hd
      split at e
      · cases e
        rw [rel_int r]
        refine OpOk.val H ⟨_, ?_, by rw [wrapF_eq]; exact mk_int _ _⟩
        simp [convert, run_underlying hsk, run_underlying hd, Conv.intToInt]
      · cases e
    · rename_i hd
      split at e
      · rename_i q
        cases e
        rw [rel_str r]
        exact OpOk.val H ⟨_, by cases us <;> simp [convert, run_underlying hsk, run_underlying hd], mk_str _⟩
      · rename_i k n
        cases e
        rw [rel_int r]
        exact OpOk.val H ⟨_, by simp [convert, run_underlying hsk, run_underlying hd, Conv.intToString], mk_str _⟩
      · rename_i hns hni
        unfold convBytes at e
        rw [hsk] at e
        split at e
        · rename_i el he
          cases he
          cases hu : isU8 (C.P.underlying el) with
          | false => rw [hu] at e; cases e
          | true =>
            rw [hu] at e
            have hu := isU8_eq hu
            simp only [cond_true] at e
            split at e
            · rename_i n hl
              split at e
              · rename_i cs hf
                split at e
                · rename_i q hq
                  cases e
                  obtain ⟨q1, a', l', c', rfl⟩ := run_bytes H r hl hf hq hns
                  refine OpOk.val H ⟨_, ?_, mk_str _⟩
                  rw [run_convert_bytes_string w s d el a' l' c' hsk hu hd]
                  exact q1
                · cases e
              · cases e
            · cases e
        · cases e
    · rename_i el hd
      split at e
      · rename_i q
        cases hu : isU8 (C.P.underlying el) with
        | false => rw [hu] at e; cases e
        | true =>
          rw [hu] at e
          have hu := isU8_eq hu
          cases e
          rw [rel_str r]
          exact strBytes_sound H el q (Lib.run_convert_string_bytes w s d el ⟨⟨q⟩⟩ hsk hd hu)
      · cases e
    · rename_i hd
      obtain ⟨q1, q2, rfl⟩ := convOut_sound H hd r e
      exact OpOk.val H ⟨_, q1, q2⟩
    · rename_i u hd
      obtain ⟨q1, q2, rfl⟩ := convBack_sound H hd r e
      exact OpOk.val H ⟨_, q1, q2⟩
    · cases e
end
end
end Go.Abs
namespace Go.Abs
noncomputable section
open Go
section
variable {C : Cfg} {w : World} {F : Nat → Prop} {μ : Map} {h : Heap}
/-! ### blocks that are no rows -/
theorem heap_setObj_same {c : Nat} (obj : Obj) (hc : c < w.heap.size) : ({ w with heap := w.heap.setIfInBounds c obj } : World).heap[c]? = some obj := by simp [hc]
theorem heap_setObj_other {c d : Nat} (obj : Obj) (hd : d ≠ c) : ({ w with heap := w.heap.setIfInBounds c obj } : World).heap[d]? = w.heap[d]? := by simp [Array.getElem?_setIfInBounds, Ne.symm hd]

theorem Next.setObj {id c o : Nat} (hm : μ id = some (c, o)) (obj : Obj) (hn : ∀ cells el fr, w.heap[c]? ≠ some (.cells cells el fr)) : Go.Abs.Next w F μ { w with heap := w.heap.setIfInBounds c obj } F μ where
  size := by simp
  os := rfl
  tape := rfl
  output := rfl
  keep := fun b _ hno => heap_setObj_other obj (fun e => hno id o (by rw [e]; exact hm))
  map := Map.le_refl _
  new := fun id _ o h => .inl ⟨id, o, h⟩
  ro := fun _ h => h
  roNew := fun _ h => .inl h
  rows := fun j b o' hj cells el fr hw => by
    by_cases e : b = c
    · subst e; exact absurd hw (hn _ _ _)
    · exact ⟨cells, el, fr, by rw [heap_setObj_other obj e]; exact hw, rfl⟩

theorem HRel.setObj (H : HRel w F μ h) {id c o : Nat} {b b' : Blk} (obj : Obj) (hb : h.get id = some b) (hl : live b) (hf : b.forked = false) (hm : μ id = some (c, o)) (hn : ∀ cells el fr, w.heap[c]? ≠ some (.cells cells el fr))
    (h1 : b'.grp = b.grp) (h2 : b'.base = b.base) (h3 : b'.forked = b.forked) (hk' : b'.kind ≠ .row)
    (hiter : ∀ s p, b'.kind = .iter s p → obj = .stringIter ⟨⟨s⟩⟩ p ∧ o = 0)
    (hloop : ∀ n tm ps x y j st, b'.kind = .loop n tm ps x y j st → LoopAt { w with heap := w.heap.setIfInBounds c obj } F μ c n tm ps x y j st) :
    HRel { w with heap := w.heap.setIfInBounds c obj } F μ (h.set id b') := by
  have N := Next.setObj (F := F) hm obj hn
  have K := N.keeps H
  have hlt := H.dom id c o hm
  have hget : ∀ j bj, (h.set id b').get j = some bj → (j = id ∧ bj = b') ∨ (j ≠ id ∧ h.get j = some bj) := by
    intro j bj hj
    rw [Heap.get_set] at hj
    by_cases e : j = id
    · rw [if_pos e] at hj; cases hj; exact .inl ⟨e, rfl⟩
    · rw [if_neg e] at hj; exact .inr ⟨e, hj⟩
  have apart : ∀ j bj d oj, j ≠ id → h.get j = some bj → live bj → μ j = some (d, oj) → d ≠ c := by
    intro j bj d oj hne hj lj mj e
    subst e
    have := (H.grp id j b bj d o oj hb hj hl lj hm mj).2.2 (Ne.symm hne)
    rw [hf] at this; cases this
  refine ⟨?_, ?_, ?_, ?_, ?_, ?_, ?_, ?_, ?_⟩
  · intro j bj hj hkj
    rcases hget j bj hj with ⟨rfl, rfl⟩ | ⟨hne, hj⟩
    · exact absurd hkj hk'
    · obtain ⟨d, o', m1, cells, el, fr, q1, q2, q3, q4, q5⟩ := H.row j bj hj hkj
      exact ⟨d, o', m1, cells, el, fr, by rw [heap_setObj_other obj (apart j bj d o' hne hj (by simp [live, hkj]) m1)]; exact q1, q2, fun i a hi => let ⟨v, r1, r2⟩ := q3 i a hi; ⟨v, r1, Rel.mono a K v r2⟩, q4, q5⟩
  · intro j bj s p hj hkj
    rcases hget j bj hj with ⟨rfl, rfl⟩ | ⟨hne, hj⟩
    · obtain ⟨rfl, rfl⟩ := hiter s p hkj
      exact ⟨c, 0, hm, heap_setObj_same _ hlt, rfl⟩
    · obtain ⟨d, o', m1, q1, q2⟩ := H.iter j bj s p hj hkj
      exact ⟨d, o', m1, by rw [heap_setObj_other obj (apart j bj d o' hne hj (by simp [live, hkj]) m1)]; exact q1, q2⟩
  · intro j bj n tm ps x y jj st hj hkj
    rcases hget j bj hj with ⟨rfl, rfl⟩ | ⟨hne, hj⟩
    · exact ⟨c, o, hm, hloop n tm ps x y jj st hkj⟩
    · obtain ⟨d, o', m1, f, tmps, dd, q1, q2, q3⟩ := H.loop j bj n tm ps x y jj st hj hkj
      exact ⟨d, o', m1, f, tmps, dd, by rw [heap_setObj_other obj (apart j bj d o' hne hj (by simp [live, hkj]) m1)]; exact q1, q2, q3.mono K⟩
  · intro i j bi bj d oi oj hi hj li lj mi mj
    have key : ∀ k bk, (h.set id b').get k = some bk → live bk → ∃ b0, h.get k = some b0 ∧ live b0 ∧ bk.grp = b0.grp ∧ bk.base = b0.base ∧ bk.forked = b0.forked := by
      intro k bk hk lk
      rcases hget k bk hk with ⟨rfl, rfl⟩ | ⟨_, hk⟩
      · exact ⟨b, hb, hl, h1, h2, h3⟩
      · exact ⟨bk, hk, lk, rfl, rfl, rfl⟩
    obtain ⟨b0, p1, p2, p3, p4, p5⟩ := key i bi hi li
    obtain ⟨b1, r1, r2, r3, r4, r5⟩ := key j bj hj lj
    rw [p3, p4, p5, r3, r4]
    exact H.grp i j b0 b1 d oi oj p1 r1 p2 r2 mi mj
  · intro j bj hj hkj d o' m1
    rcases hget j bj hj with ⟨rfl, rfl⟩ | ⟨hne, hj⟩
    · exact absurd hkj hk'
    · obtain ⟨cells, fr, q1, q2⟩ := H.typ j bj hj hkj d o' m1
      exact ⟨cells, fr, by rw [heap_setObj_other obj (apart j bj d o' hne hj (by simp [live, hkj]) m1)]; exact q1, q2⟩
  · intro j bj hj
    rcases hget j bj hj with ⟨rfl, rfl⟩ | ⟨hne, hj⟩
    · exact H.lt _ _ hb
    · exact H.lt _ _ hj
  · exact H.fresh
  · intro j d o' m1; simpa using H.dom j d o' m1
  · intro d hd; simpa using H.sep d hd

theorem range_sound (H : HRel w F μ h) {t : TypeId} {x a : AV} {v : Value} {h' : Heap} (hu : C.P.underlying t = some .string) (r : Rel w F x μ v) (e : opRange h x = some (a, h')) : OpOk C w F μ (do pure (.value (← Instr.range t v))) a h' := by
  unfold opRange at e
  split at e
  · rename_i s
    cases e
    rw [rel_str r]
    have N := Next.allocAt w F μ (.stringIter ⟨⟨s⟩⟩ 0) H.dom H.none_next
    refine ⟨.value (.pointer (some ⟨w.heap.size, 0, none⟩)), _, _, by simp [Instr.range, run_underlying hu], .inl ⟨_, rfl, ?_⟩, N, H.addAt (pos := h.next) (.stringIter ⟨⟨s⟩⟩ 0) H.none_next (fun j => Heap.get_add h _ j) (Nat.le_succ _) (Nat.lt_succ_self _) ?_ ?_ ?_ ?_⟩
    · unfold Rel; exact ⟨w.heap.size, 0, Map.set_same _ _ _, rfl⟩
    · intro hk; cases hk
    · intro hk; cases hk
    · intro s p hk; cases hk; rfl
    · intro n tm ps x y j st hk; cases hk
  · cases e

theorem next_sound (H : HRel w F μ h) {t : TypeId} {x a : AV} {v : Value} {h' : Heap} (r : Rel w F x μ v) (e : opNext h x = some (a, h')) : OpOk C w F μ (do pure (.value (← Instr.next v true t))) a h' := by
  unfold opNext at e
  split at e
  · rename_i id
    split at e
    · rename_i b hb
      split at e
      · rename_i s pos hk
        cases hf : b.forked with
        | true => rw [hf] at e; cases e
        | false =>
          rw [hf] at e
          simp only [cond_false] at e
          obtain ⟨c, o, hm, hw, rfl⟩ := H.iter id b s pos hb hk
          unfold Rel at r
          obtain ⟨c', o', hm', rfl⟩ := r
          rw [hm] at hm'; cases hm'
          cases hp : Nat.ble (Nat.succ pos) (lenN s) with
          | true =>
            rw [hp] at e
            have hp := Nat.le_of_ble_eq_true hp
            rw [lenN_eq] at hp
            cases e
            have hn : ∀ cells el fr, w.heap[c]? ≠ some (.cells cells el fr) := by intro cells el fr h; rw [hw] at h; cases h
            refine ⟨.value _, _, μ, by simp only [Sem.run_bind, Nat.add_zero]; rw [Lib.run_next_any_at w c ⟨⟨s⟩⟩ pos t hw (by exact hp)]; rfl, .inl ⟨_, rfl, ?_⟩, Next.setObj hm _ hn, H.setObj (b := b) _ hb (by simp [live, hk]) hf hm hn rfl rfl rfl (by simp) ?_ ?_⟩
            · unfold Rel
              refine ⟨_, rfl, ?_⟩
              unfold RelL
              refine ⟨_, _, rfl, mk_bool _, ?_⟩
              unfold RelL
              refine ⟨_, _, rfl, mk_int _ _, ?_⟩
              unfold RelL
              exact ⟨_, _, rfl, mk_int _ _, by unfold RelL; rfl⟩
            · intro s' p' e; cases e; exact ⟨rfl, rfl⟩
            · intro n tm ps x y j st e; cases e
          | false =>
            rw [hp] at e
            have hp : ¬ pos < s.length := by
              intro hlt
              have : Nat.ble (Nat.succ pos) (lenN s) = true := Nat.ble_eq_true_of_le (by rw [lenN_eq]; exact hlt)
              rw [this] at hp; cases hp
            cases e
            refine ⟨.value _, w, μ, by simp only [Sem.run_bind, Nat.add_zero]; rw [Lib.run_next_end_at w c ⟨⟨s⟩⟩ pos t hw (by exact hp)]; rfl, .inl ⟨_, rfl, ?_⟩, Next.refl w F μ, H⟩
            unfold Rel
            refine ⟨_, rfl, ?_⟩
            unfold RelL
            exact ⟨_, _, rfl, mk_bool _, by unfold RelL; rfl⟩
      · cases e
    · cases e
  · cases e
end
end
end Go.Abs
namespace Go.Abs
noncomputable section
open Go
section
variable {C : Cfg} {w : World} {F : Nat → Prop} {μ : Map} {h : Heap}
/-! ### freezing -/
open Classical in
noncomputable def frzB (grp : Nat) (b : Blk) : Blk := if b.grp = grp ∧ b.kind = .row then { b with frz := true, ver := Nat.succ b.ver } else b

theorem get_frzAll (h : Heap) (grp : Nat) : ∀ n j, (frzAll h grp n).get j = if j < n then (h.get j).map (frzB grp) else h.get j := by
  intro n
  induction n with
  | zero => intro j; simp; rfl
  | succ n ih =>
    intro j
    have hstep : frzAll h grp (n + 1) = (match (frzAll h grp n).get n with
      | some b => bif Nat.beq b.grp grp && b.kind.isRow then (frzAll h grp n).set n { b with frz := true, ver := Nat.succ b.ver } else frzAll h grp n
      | none => frzAll h grp n) := rfl
    have hn : (frzAll h grp n).get n = h.get n := by rw [ih]; simp
    rw [hstep, hn]
    cases hb : h.get n with
    | none =>
      simp only
      rw [ih]
      by_cases e : j = n
      · subst e; simp [hb]
      · by_cases h1 : j < n
        · rw [if_pos h1, if_pos (by omega)]
        · rw [if_neg h1, if_neg (by omega)]
    | some b =>
      simp only
      cases hc : (Nat.beq b.grp grp && b.kind.isRow) with
      | true =>
        simp only [cond_true]
        rw [Bool.and_eq_true] at hc
        have c1 := Nat.eq_of_beq_eq_true hc.1
        have c2 := Kind.isRow_iff.1 hc.2
        rw [Heap.get_set, ih]
        by_cases e : j = n
        · subst e; simp [hb, frzB, c1, c2]
        · rw [if_neg e]
          by_cases h1 : j < n
          · rw [if_pos h1, if_pos (by omega)]
          · rw [if_neg h1, if_neg (by omega)]
      | false =>
        simp only [cond_false]
        rw [ih]
        by_cases e : j = n
        · subst e
          have : ¬ (b.grp = grp ∧ b.kind = .row) := by
            rintro ⟨rfl, hk⟩
            have : (Nat.beq b.grp b.grp && b.kind.isRow) = true := by
              rw [Bool.and_eq_true]; exact ⟨Nat.beq_refl _, Kind.isRow_iff.2 hk⟩
            rw [this] at hc; cases hc
          simp [hb, frzB, this]
        · by_cases h1 : j < n
          · rw [if_pos h1, if_pos (by omega)]
          · rw [if_neg h1, if_neg (by omega)]

theorem next_frzAll (h : Heap) (grp : Nat) : ∀ n, (frzAll h grp n).next = h.next := by
  intro n
  induction n with
  | zero => rfl
  | succ n ih =>
    have hstep : frzAll h grp (n + 1) = (match (frzAll h grp n).get n with
      | some b => bif Nat.beq b.grp grp && b.kind.isRow then (frzAll h grp n).set n { b with frz := true, ver := Nat.succ b.ver } else frzAll h grp n
      | none => frzAll h grp n) := rfl
    rw [hstep]
    split
    · rename_i b _
      cases (Nat.beq b.grp grp && b.kind.isRow) <;> simp [ih]
    · exact ih

/-- what freezing does to a block -/
def Frz (b b' : Blk) : Prop := b' = b ∨ b' = { b with frz := true, ver := Nat.succ b.ver }

theorem frzOne_get (H : HRel w F μ h) {id : Nat} {b : Blk} (hb : h.get id = some b) (hk : b.kind = .row) {c o : Nat} (hm : μ id = some (c, o)) : (frzOne h id b).next = h.next ∧ ∀ j b', (frzOne h id b).get j = some b' → ∃ b0, h.get j = some b0 ∧ Frz b0 b' ∧ (b0.kind = .row → ∀ oj, μ j = some (c, oj) → b'.frz = true) := by
  unfold frzOne
  cases hf : b.forked with
  | true =>
    simp only [cond_true]
    refine ⟨next_frzAll _ _ _, fun j b' hj => ?_⟩
    rw [get_frzAll] at hj
    by_cases hlt : j < h.next
    · rw [if_pos hlt] at hj
      cases h0 : h.get j with
      | none => rw [h0] at hj; cases hj
      | some b0 =>
        rw [h0] at hj
        simp only [Option.map_some, Option.some.injEq] at hj
        subst hj
        refine ⟨b0, rfl, ?_, ?_⟩
        · unfold frzB; split
          · exact .inr rfl
          · exact .inl rfl
        · intro hk0 oj mj
          have := (H.grp id j b b0 c o oj hb h0 (by simp [live, hk]) (by simp [live, hk0]) hm mj).1
          unfold frzB
          rw [if_pos ⟨this.symm, hk0⟩]
    · rw [if_neg hlt] at hj
      exact absurd (H.lt j b' hj) hlt
  | false =>
    simp only [cond_false]
    refine ⟨rfl, fun j b' hj => ?_⟩
    rw [Heap.get_set] at hj
    by_cases e : j = id
    · subst e
      rw [if_pos rfl] at hj; cases hj
      exact ⟨b, hb, .inr (by simp [hf]), fun _ _ _ => rfl⟩
    · rw [if_neg e] at hj
      refine ⟨b', hj, .inl rfl, ?_⟩
      intro hk0 oj mj
      have := (H.grp id j b b' c o oj hb hj (by simp [live, hk]) (by simp [live, hk0]) hm mj).2.2 (Ne.symm e)
      rw [hf] at this; cases this

theorem freeze_at {b p n : Nat} {cells : Array Value} {el : TypeId} {fr : Nat × Nat} (hw : w.heap[b]? = some (.cells cells el fr)) : ∃ fr', (w.freeze ⟨b, p, none⟩ n).heap[b]? = some (.cells cells el fr') := by
  unfold World.freeze
  split
  · exact ⟨fr, hw⟩
  · obtain ⟨lo, hi⟩ := fr
    simp [Array.getElem?_modify, hw]
theorem freeze_other {b p n d : Nat} (hd : d ≠ b) : (w.freeze ⟨b, p, none⟩ n).heap[d]? = w.heap[d]? := by
  unfold World.freeze
  split
  · rfl
  · simp [Array.getElem?_modify, Ne.symm hd]
theorem freeze_rest (a : Addr) (n : Nat) : (w.freeze a n).heap.size = w.heap.size ∧ (w.freeze a n).os = w.os ∧ (w.freeze a n).tape = w.tape ∧ (w.freeze a n).output = w.output := by
  unfold World.freeze
  split <;> simp

theorem HRel.freeze (H : HRel w F μ h) {id : Nat} {b : Blk} (hb : h.get id = some b) (hk : b.kind = .row) {c o : Nat} (hm : μ id = some (c, o)) (p n : Nat) :
    HRel (w.freeze ⟨c, p, none⟩ n) F μ (frzOne h id b) ∧ Go.Abs.Next w F μ (w.freeze ⟨c, p, none⟩ n) F μ := by
  obtain ⟨r1, r2, r3, r4⟩ := freeze_rest (w := w) ⟨c, p, none⟩ n
  obtain ⟨c', o', hm', cells, el, fr, hw, hsz, hcell, hone, hfr⟩ := H.row id b hb hk
  rw [hm] at hm'; cases hm'
  obtain ⟨fr', hw'⟩ := freeze_at (p := p) (n := n) hw
  have N : Go.Abs.Next w F μ (w.freeze ⟨c, p, none⟩ n) F μ := {
    size := by rw [r1]; exact Nat.le_refl _
    os := r2
    tape := r3
    output := r4
    keep := fun b _ hno => freeze_other (fun e => hno id o (by rw [e]; exact hm))
    map := Map.le_refl _
    new := fun id _ o h => .inl ⟨id, o, h⟩
    ro := fun _ h => h
    roNew := fun _ h => .inl h
    rows := fun j d oj _ cs el' f hd => by
      by_cases e : d = c
      · subst e; rw [hw] at hd; cases hd; exact ⟨_, _, _, hw', rfl⟩
      · exact ⟨cs, el', f, by rw [freeze_other e]; exact hd, rfl⟩ }
  have K := N.keeps H
  obtain ⟨hnx, hget⟩ := frzOne_get H hb hk hm
  refine ⟨⟨?_, ?_, ?_, ?_, ?_, ?_, ?_, ?_, ?_⟩, N⟩
  · intro j b' hj hkj
    obtain ⟨b0, h0, hF, hz⟩ := hget j b' hj
    have hk0 : b0.kind = .row := by rcases hF with rfl | rfl <;> exact hkj
    obtain ⟨d, oj, mj, cs, el', f, q1, q2, q3, q4, q5⟩ := H.row j b0 h0 hk0
    have hcells : b'.cells = b0.cells := by rcases hF with rfl | rfl <;> rfl
    by_cases e : d = c
    · subst e
      rw [hw] at q1; cases q1
      refine ⟨d, oj, mj, cells, el, fr', hw', by rw [hcells]; exact q2, fun i a hi => ?_, q4, fun hf => ?_⟩
      · rw [hcells] at hi
        obtain ⟨v, s1, s2⟩ := q3 i a hi
        exact ⟨v, s1, Rel.mono a K v s2⟩
      · rw [hz hk0 oj mj] at hf; cases hf
    · refine ⟨d, oj, mj, cs, el', f, by rw [freeze_other e]; exact q1, by rw [hcells]; exact q2, fun i a hi => ?_, q4, fun hf => ?_⟩
      · rw [hcells] at hi
        obtain ⟨v, s1, s2⟩ := q3 i a hi
        exact ⟨v, s1, Rel.mono a K v s2⟩
      · rcases hF with rfl | rfl
        · exact q5 hf
        · cases hf
  · intro j b' s q hj hkj
    obtain ⟨b0, h0, hF, hz⟩ := hget j b' hj
    have hk0 : b0.kind = .iter s q := by rcases hF with rfl | rfl <;> exact hkj
    obtain ⟨d, oj, mj, q1, q2⟩ := H.iter j b0 s q h0 hk0
    exact ⟨d, oj, mj, by rw [freeze_other (fun e => by subst e; rw [hw] at q1; cases q1)]; exact q1, q2⟩
  · intro j b' nn tm ps x y jj st hj hkj
    obtain ⟨b0, h0, hF, hz⟩ := hget j b' hj
    have hk0 : b0.kind = .loop nn tm ps x y jj st := by rcases hF with rfl | rfl <;> exact hkj
    obtain ⟨d, oj, mj, f, tmps, dd, q1, q2, q3⟩ := H.loop j b0 nn tm ps x y jj st h0 hk0
    exact ⟨d, oj, mj, f, tmps, dd, by rw [freeze_other (fun e => by subst e; rw [hw] at q1; cases q1)]; exact q1, q2, q3.mono K⟩
  · intro i j bi bj d oi oj hi hj li lj mi mj
    obtain ⟨b0, h0, hF, _⟩ := hget i bi hi
    obtain ⟨b1, h1, hG, _⟩ := hget j bj hj
    have e0 : live b0 ∧ bi.grp = b0.grp ∧ bi.base = b0.base ∧ bi.forked = b0.forked := by rcases hF with rfl | rfl <;> exact ⟨li, rfl, rfl, rfl⟩
    have e1 : live b1 ∧ bj.grp = b1.grp ∧ bj.base = b1.base ∧ bj.forked = b1.forked := by rcases hG with rfl | rfl <;> exact ⟨lj, rfl, rfl, rfl⟩
    rw [e0.2.1, e0.2.2.1, e0.2.2.2, e1.2.1, e1.2.2.1]
    exact H.grp i j b0 b1 d oi oj h0 h1 e0.1 e1.1 mi mj
  · intro j b' hj hkj d oj mj
    obtain ⟨b0, h0, hF, _⟩ := hget j b' hj
    have e0 : b0.kind = .row ∧ b'.el = b0.el ∧ b'.whole = b0.whole ∧ b'.cells = b0.cells := by rcases hF with rfl | rfl <;> exact ⟨hkj, rfl, rfl, rfl⟩
    obtain ⟨cs, f, q1, q2⟩ := H.typ j b0 h0 e0.1 d oj mj
    rw [e0.2.1, e0.2.2.1, e0.2.2.2]
    by_cases e : d = c
    · subst e; rw [hw] at q1; cases q1; exact ⟨_, _, hw', q2⟩
    · exact ⟨cs, f, by rw [freeze_other e]; exact q1, q2⟩
  · intro j b' hj
    obtain ⟨b0, h0, _⟩ := hget j b' hj
    rw [hnx]; exact H.lt j b0 h0
  · intro j x hx; rw [hnx]; exact H.fresh j x hx
  · intro j d oj hx; rw [r1]; exact H.dom j d oj hx
  · intro d hd; rw [r1]; exact H.sep d hd

theorem run_loadBytes_ints {P : Program} : ∀ (ns : List Int) (a : Addr) (acc : ByteArray), (∀ j x, (ns.map (Value.int .u8))[j]? = some x → w.cell? (a.add j) = some x) →
    (loadBytes a acc ns.length).run P w = .ok ⟨⟨acc.data.toList ++ ns.map fun n => UInt8.ofNat n.toNat⟩⟩ w
  | [], a, acc, _ => by simp [loadBytes]
  | n :: ns, a, acc, hc => by
    have h0 : w.cell? a = some (.int .u8 n) := by
      have := hc 0 _ rfl
      simpa [Addr.add] using this
    have ih := run_loadBytes_ints (P := P) ns (a.add 1) (acc.push n.toNat.toUInt8) (fun j y hy => by
      have := hc (j + 1) y (by simpa using hy)
      have e : (a.add 1).add j = a.add (j + 1) := by
        unfold Addr.add
        by_cases hj : j = 0
        · subst hj; simp
        · simp [hj]; omega
      rw [e]; exact this)
    simp only [List.length_cons, loadBytes, Sem.run_bind, run_load, h0, Result.andThen]
    rw [ih]
    congr 2
    simp [ByteArray.push]
end
end
end Go.Abs
namespace Go.Abs
noncomputable section
open Go
section
variable {C : Cfg} {w : World} {F : Nat → Prop} {μ : Map} {h : Heap}
theorem len_slice {t e : TypeId} {ts : Array TypeId} {ty : TypeId} (ht : ts[0]? = some t) (hu : C.P.underlying t = some (.slice e)) (a : Option Addr) (n c : Nat) : (Builtin.len_ ts ty #[.slice a n c]).run C.P w = .ok (.int .i64 n) w := by
  simp [Builtin.len_, ht, run_underlying hu, goInt]
theorem cap_slice {t e : TypeId} {ts : Array TypeId} {ty : TypeId} (ht : ts[0]? = some t) (hu : C.P.underlying t = some (.slice e)) (a : Option Addr) (n c : Nat) : (Builtin.cap_ ts ty #[.slice a n c]).run C.P w = .ok (.int .i64 c) w := by
  simp [Builtin.cap_, ht, run_underlying hu, goInt]

theorem lenSl_sound {x : AV} {n : Nat} {v : Value} (e : lenSl x = some n) (r : Rel w F x μ v) : ∃ a c, v = .slice a n c := by
  unfold lenSl at e
  split at e
  · cases e
  · rename_i hs
    rcases lenA_sound e r with ⟨s, rfl, _⟩ | ⟨a, c, rfl, _⟩
    · exact absurd rfl (hs s)
    · exact ⟨a, c, rfl⟩

theorem biLen_sound {t : TypeId} {ts : Array TypeId} {ty : TypeId} {x a : AV} {v : Value} (ht : ts[0]? = some t) (r : Rel w F x μ v) (e : biLen C t x = some a) : ∃ u, (Builtin.len_ ts ty #[v]).run C.P w = .ok u w ∧ Rel w F a μ u := by
  unfold biLen at e
  split at e
  · rename_i n el hu
    cases e
    exact ⟨.int .i64 n, by simp [Builtin.len_, ht, run_underlying hu, goInt], mk_int _ _⟩
  · rename_i p hu
    split at e
    · rename_i n el hp
      cases e
      exact ⟨.int .i64 n, by simp [Builtin.len_, ht, run_underlying hu, run_underlying hp, goInt], mk_int _ _⟩
    · cases e
  · rename_i hu
    split at e
    · rename_i s
      cases e
      rw [rel_str r, lenN_eq]
      exact ⟨.int .i64 s.length, by simp [Builtin.len_, ht, run_underlying hu, goInt]; rfl, mk_int _ _⟩
    · cases e
  · rename_i el hu
    unfold intO at e
    split at e
    · rename_i n hn
      cases e
      obtain ⟨a, c, rfl⟩ := lenSl_sound hn r
      exact ⟨_, len_slice ht hu a n c, mk_int _ _⟩
    · cases e
  · cases e

theorem biCap_sound {t : TypeId} {ts : Array TypeId} {ty : TypeId} {x a : AV} {v : Value} (ht : ts[0]? = some t) (r : Rel w F x μ v) (e : biCap C t x = some a) : ∃ u, (Builtin.cap_ ts ty #[v]).run C.P w = .ok u w ∧ Rel w F a μ u := by
  unfold biCap at e
  split at e
  · rename_i el hu
    split at e
    · rename_i id off es len c ex
      cases e
      obtain ⟨b, o, a, c', h1, rfl, h3, h4, h5, h6⟩ := rel_slO r
      refine ⟨_, cap_slice ht hu _ _ _, ?_⟩
      cases ex with
      | true => rw [h5 rfl]; exact mk_int _ _
      | false => exact rel_dead _
    · rename_i cs off len c ex
      cases e
      obtain ⟨b, o, a, c', h1, rfl, h3, h4, h5, h6⟩ := rel_slR r
      refine ⟨_, cap_slice ht hu _ _ _, ?_⟩
      cases ex with
      | true => rw [h5 rfl]; exact mk_int _ _
      | false => exact rel_dead _
    · rename_i pt l ex
      cases e
      have : ∃ a c, v = .slice a l.length c ∧ (ex = true → c = l.length) := by
        rcases inv_slT r with ⟨h0, rfl⟩ | ⟨b, o, a, c, hF, rfl, h1, h2, h3, h4⟩
        · subst h0; exact ⟨_, _, rfl, fun _ => rfl⟩
        · exact ⟨_, _, rfl, h2⟩
      obtain ⟨a, c, rfl, h5⟩ := this
      refine ⟨_, cap_slice ht hu _ _ _, ?_⟩
      cases ex with
      | true => rw [h5 rfl]; exact mk_int _ _
      | false => exact rel_dead _
    · cases e
      rw [rel_nils r]
      exact ⟨_, cap_slice ht hu _ _ _, mk_int _ _⟩
    · cases e
  · cases e

theorem biMax_sound {ts : Array TypeId} {ty : TypeId} {x y a : AV} {v u : Value} (rx : Rel w F x μ v) (ry : Rel w F y μ u) (e : biMax x y = some a) : ∃ z, (Builtin.max_ ts ty #[v, u]).run C.P w = .ok z w ∧ Rel w F a μ z := by
  unfold biMax at e
  split at e
  · rename_i k p k' q
    cases e
    rw [rel_int rx, rel_int ry]
    refine ⟨.int k (if q > p then q else p), rfl, ?_⟩
    by_cases h : q > p <;> simp [h] <;> exact mk_int _ _
  · cases e

theorem biMin_sound {ts : Array TypeId} {ty : TypeId} {x y a : AV} {v u : Value} (rx : Rel w F x μ v) (ry : Rel w F y μ u) (e : biMin x y = some a) : ∃ z, (Builtin.min_ ts ty #[v, u]).run C.P w = .ok z w ∧ Rel w F a μ z := by
  unfold biMin at e
  split at e
  · rename_i k p k' q
    cases e
    rw [rel_int rx, rel_int ry]
    refine ⟨.int k (if q < p then q else p), rfl, ?_⟩
    by_cases h : q < p <;> simp [h] <;> exact mk_int _ _
  · cases e

theorem biSliceData_sound {ts : Array TypeId} {ty : TypeId} {x a : AV} {v : Value} (r : Rel w F x μ v) (e : biSliceData x = some a) : ∃ u, (Builtin.unsafeSliceData_ ts ty #[v]).run C.P w = .ok u w ∧ Rel w F a μ u := by
  unfold biSliceData at e
  split at e
  · cases e
    rw [rel_nils r]
    exact ⟨_, Lib.run_unsafeSliceData_nil w ts ty 0 0, by unfold Rel; rfl⟩
  · rename_i id off es len c ex
    cases e
    obtain ⟨b, o, a, c', h1, rfl, h3, h4, h5, h6⟩ := rel_slO r
    have hc : c' ≠ 0 := by omega
    obtain ⟨rfl, _⟩ := h6 hc
    exact ⟨_, Lib.run_unsafeSliceData_row w ts ty _ _ _ hc, by unfold Rel; exact ⟨b, o, h1, rfl⟩⟩
  · cases e
end
end
end Go.Abs
namespace Go.Abs
noncomputable section
open Go
section
variable {C : Cfg} {w : World} {F : Nat → Prop} {μ : Map} {h : Heap}
theorem builtinZero_eq (z : Array Value) (n : Nat) : Builtin.zeroCells z n = madeCells z (n * z.size) := rfl

/-- a store of known cells, and the model's own run of it -/
theorem store_run (H : HRel w F μ h) {id off : Nat} {as : List AV} {h' : Heap} (hs : storeAt h id off as = some h') {vs : List Value} (hr : RelL w F as μ vs) (h1 : ∀ v ∈ vs, one v = true) {b o : Nat} (hm : μ id = some (b, o)) :
    (storeCells ⟨b, o + off, none⟩ vs).run C.P w = .ok () (w.setCells b (o + off) vs) ∧ HRel (w.setCells b (o + off) vs) F μ h' ∧ Go.Abs.Next w F μ (w.setCells b (o + off) vs) F μ := by
  obtain ⟨c, o', hm', s1, s2, H', N, _⟩ := H.store hs hr h1
  rw [hm] at hm'; cases hm'
  have hst := run_storeCells_cells (P := C.P) b (o + off) vs 0 w (by simpa using s1) (by simpa using s2) (by intro y hy; rw [one_eq]; exact h1 y hy)
  exact ⟨by simpa using hst, H', N⟩

theorem clear_sound (H : HRel w F μ h) {t : TypeId} {ts : Array TypeId} {ty : TypeId} {x a : AV} {v : Value} {h' : Heap} (ht : ts[0]? = some t) (r : Rel w F x μ v) (e : biClear C h t x = some (a, h')) :
    OpOk C w F μ (do pure (.value (← Builtin.clear_ ts ty #[v]))) a h' := by
  unfold biClear at e
  split at e
  · rename_i el hu
    split at e
    · cases e
      rw [rel_nils r]
      exact OpOk.val H ⟨.tuple #[], by simp [Builtin.clear_, ht, run_underlying hu], mk_unit⟩
    · rename_i id off es n cap ex
      split at e
      · rename_i z hz
        split at e
        · rename_i h2 hs
          cases e
          obtain ⟨b, o, ad, c', m1, rfl, h3, h4, h5, h6⟩ := rel_slO r
          obtain ⟨i, zv, hi, hzv, rz, o1, l1, l2⟩ := rel_zero (w := w) (F := F) (μ := μ) hz
          obtain ⟨r1, o2⟩ := rel_rep rz o1 l1 l2 n
          obtain ⟨q1, q2, q3⟩ := store_run (C := C) H hs r1 o2 m1
          cases n with
          | zero =>
            have e0 : (madeCells zv.cells (0 * i.size)).toList = [] := by simp [madeCells]
            rw [e0] at q2 q3
            refine ⟨_, w, μ, ?_, .inl ⟨_, rfl, mk_unit⟩, Next.refl w F μ, q2⟩
            simp [Builtin.clear_, ht, run_underlying hu, undef]
          | succ n =>
            have hc : c' ≠ 0 := by omega
            obtain ⟨rfl, _⟩ := h6 hc
            refine ⟨.value undef, _, μ, ?_, .inl ⟨_, rfl, mk_unit⟩, q3, q2⟩
            simp [Builtin.clear_, ht, run_underlying hu, run_zero hi hzv, builtinZero_eq, q1, undef, l2]
        · cases e
      · cases e
    · cases e
  · cases e

/-- the cells of the first n elements of a slice or a string, as the model reads them -/
theorem first_sound (H : HRel w F μ h) {size n m : Nat} {x : AV} {v : Value} {cs : List AV} (r : Rel w F x μ v) (e : firstA h size n x = some cs) (hm : lenA x = some m) (hn : n ≤ m) :
    ∃ vs : List Value, vs.length = n * size ∧ RelL w F cs μ vs ∧ (∀ y ∈ vs, one y = true) ∧ ∀ w' : World, w'.heap = w.heap → (Builtin.firstCells size n v).run C.P w' = .ok vs.toArray w' := by
  by_cases hx : ∃ s, x = .str s
  · obtain ⟨s, rfl⟩ := hx
    rw [rel_str r]
    unfold firstA at e
    simp only at e
    cases hs : Nat.beq size 1 with
    | false => rw [hs] at e; cases e
    | true =>
      rw [hs] at e
      obtain rfl := Nat.eq_of_beq_eq_true hs
      cases e
      have hl : n ≤ s.length := by
        have : lenA (.str s) = some (lenN s) := rfl
        rw [this, lenN_eq] at hm
        cases hm; exact hn
      refine ⟨(s.take n).map fun b => Value.int .u8 b.toNat, by simp; omega, by rw [takeN_eq]; exact relL_bytes _, ?_, ?_⟩
      · intro y hy
        obtain ⟨b, _, rfl⟩ := List.mem_map.1 hy
        rfl
      · intro w' _
        simp only [Builtin.firstCells]
        have : (ByteArray.extract ⟨⟨s⟩⟩ 0 n).data = ⟨s.take n⟩ := by
          rw [ByteArray.data_extract]
          simp
        rw [this]
        simp
  · have hx' : ∀ s, x ≠ .str s := fun s e => hx ⟨s, e⟩
    obtain ⟨vs, q1, q2, q3, q4⟩ := firstSl_sound H r e hm hn hx'
    refine ⟨vs, q1, q2, q3, fun w' hw => ?_⟩
    rcases q4 with ⟨rfl, rfl⟩ | ⟨a, l, c, rfl, q5⟩
    · have : vs = [] := by simpa using q1
      subst this
      rfl
    · refine run_firstCells_some w' size n a l c vs q1 (fun j u hj => ?_)
      rw [← q5 j u hj]
      simp [World.cell?, hw]

theorem rel_len {x : AV} {n : Nat} {v : Value} (e : lenA x = some n) (r : Rel w F x μ v) (w' : World) : (Builtin.lenOf v).run C.P w' = .ok n w' := by
  rcases lenA_sound e r with ⟨s, rfl, rfl, rfl⟩ | ⟨a, c, rfl, _⟩ <;> rfl

theorem copy_sound (H : HRel w F μ h) {t : TypeId} {ts : Array TypeId} {ty : TypeId} {d x a : AV} {v u : Value} {h' : Heap} (ht : ts[0]? = some t) (rd : Rel w F d μ v) (rx : Rel w F x μ u) (e : biCopy C h t d x = some (a, h')) :
    OpOk C w F μ (do pure (.value (← Builtin.copy_ ts ty #[v, u]))) a h' := by
  unfold biCopy at e
  split at e
  · rename_i el hu
    cases hk : knownT C el with
    | false => rw [hk] at e; cases e
    | true =>
      rw [hk] at e
      obtain ⟨i, hi⟩ := knownT_info hk
      simp only [Bool.not_true, cond_false] at e
      split at e
      · rename_i n m hn hm
        rw [sizeT_eq hi] at e
        split at e
        · rename_i cs hf
          obtain ⟨vs, q1, q2, q3, q4⟩ := first_sound (C := C) H rx hf hm (Nat.min_le_left m n)
          have hlen := rel_len (C := C) hm rx w
          unfold biCopyTo at e
          split at e
          · cases e
            rw [rel_nils rd]
            have hn0 : n = 0 := by rw [show lenA AV.nils = some 0 from rfl] at hn; cases hn; rfl
            subst hn0
            refine OpOk.val H ⟨.int .i64 0, ?_, mk_int _ _⟩
            have q4' := q4 w rfl
            simp only [Nat.min_zero] at q4'
            simp [Builtin.copy_, ht, run_underlying hu, hlen, run_size hi, q4', goInt]
          · rename_i id off es len cap ex
            split at e
            · rename_i h2 hs
              cases e
              obtain ⟨b, o, ad, c', m1, rfl, h3, h4, h5, h6⟩ := rel_slO rd
              have hn' : len = n := by rw [show lenA (AV.slO id off es len cap ex) = some len from rfl] at hn; cases hn; rfl
              subst hn'
              obtain ⟨s1, s2, s3⟩ := store_run (C := C) H hs q2 q3 m1
              have q4' := q4 w rfl
              by_cases hc : c' = 0
              · obtain rfl : len = 0 := by omega
                simp only [Nat.min_zero, Nat.zero_mul] at q1 q4'
                obtain rfl : vs = [] := by simpa using q1
                refine ⟨.value (.int .i64 ((Nat.min m 0 : Nat) : Int)), w, μ, ?_, .inl ⟨_, rfl, mk_int _ _⟩, Next.refl w F μ, s2⟩
                simp [Builtin.copy_, ht, run_underlying hu, hlen, run_size hi, q4', goInt, storeCells]
              · obtain ⟨rfl, _⟩ := h6 hc
                refine ⟨.value (.int .i64 ((Nat.min m len : Nat) : Int)), _, μ, ?_, .inl ⟨_, rfl, mk_int _ _⟩, s3, s2⟩
                simp [Builtin.copy_, ht, run_underlying hu, hlen, run_size hi, q4', goInt, s1]
            · cases e
          · cases e
        · cases e
      · cases e
  · cases e
end
end
end Go.Abs
namespace Go.Abs
noncomputable section
open Go
section
variable {C : Cfg} {w : World} {F : Nat → Prop} {μ : Map} {h : Heap}
/-! ### append: the model's runs -/
theorem notMade_cases {ts : Array TypeId} (e : notMade C ts = true) : ts[1]? = none ∨ ∃ u d, ts[1]? = some u ∧ C.P.underlying u = some d ∧ ∀ k, d ≠ .int k := by
  unfold notMade at e
  split at e
  · rename_i u hu
    split at e
    · cases e
    · rename_i d hn hd
      exact .inr ⟨u, d, hu, hd, fun k e => hn k (by rw [e])⟩
    · cases e
  · rename_i hn; exact .inl hn

theorem run_append_room0 {w' : World} {t el : TypeId} {ts : Array TypeId} {ty : TypeId} {i : TypeInfo} {base : Option Addr} {sLen sCap n : Nat} {x : Value} {vs : List Value} (hnm : notMade C ts = true) (ht : ts[0]? = some t) (hu : C.P.underlying t = some (.slice el)) (hi : C.P.info? el = some i)
    (hl : (Builtin.lenOf x).run C.P w = .ok n w) (hf : (Builtin.firstCells i.size n x).run C.P w = .ok vs.toArray w) (hroom : sLen + n ≤ sCap)
    (hs : ∀ a, base = some a → (storeCells (a.add (sLen * i.size)) vs).run C.P w = .ok () w') (h0 : base = none → w' = w) :
    (Builtin.append_ ts ty #[.slice base sLen sCap, x]).run C.P w = .ok (.slice base (sLen + n) sCap) w' := by
  rcases notMade_cases hnm with h1 | ⟨u, d, h1, hd, hk⟩
  · cases base with
    | none => rw [h0 rfl]; simp [Builtin.append_, ht, h1, run_underlying hu, run_size hi, hl, hf, hroom]
    | some a => simp [Builtin.append_, ht, h1, run_underlying hu, run_size hi, hl, hf, hroom, hs a rfl]
  · have hz : (match d with | .int _ => true | _ => false) = false := by
      cases d <;> first | rfl | (exact absurd rfl (hk _))
    unfold Builtin.append_
    simp only [ht, h1, List.getElem?_toArray, List.getElem?_cons_zero, List.getElem?_cons_succ]
    rw [Sem.run_bind, run_underlying hu, Result.andThen_ok]
    simp only
    rw [Sem.run_bind, run_size hi, Result.andThen_ok]
    rw [Sem.run_bind, run_underlying hd, Result.andThen_ok]
    rw [Sem.run_bind, Sem.run_pure, Result.andThen_ok]
    cases base with
    | none => rw [h0 rfl]; simp [hz, hl, hf, hroom]
    | some a => simp [hz, hl, hf, hroom, hs a rfl]

theorem run_append_grow0 {t el : TypeId} {ts : Array TypeId} {ty : TypeId} {i : TypeInfo} {z : Value} {base : Option Addr} {sLen sCap n : Nat} {x : Value} {os vs : List Value} (hnm : notMade C ts = true) (ht : ts[0]? = some t) (hu : C.P.underlying t = some (.slice el)) (hi : C.P.info? el = some i) (hz : i.zero = some z)
    (hl : ∀ w' : World, (Builtin.lenOf x).run C.P w' = .ok n w') (ho : ∀ w' : World, w'.heap = w.heap → (Builtin.firstCells i.size sLen (.slice base sLen sCap)).run C.P w' = .ok os.toArray w') (hf : ∀ w' : World, w'.heap = w.heap → (Builtin.firstCells i.size n x).run C.P w' = .ok vs.toArray w')
    (hg : sCap < sLen + n) (h63 : sLen + n ≤ 9223372036854775807) (hfit : Builtin.nextslicecap (sLen + n) sCap * i.bytes ≤ 281474976710656) :
    (Builtin.append_ ts ty #[.slice base sLen sCap, x]).run C.P w = .ok (.slice (some ⟨w.heap.size, 0, none⟩) (sLen + n) (grownCap w (sLen + n) sCap el))
      (w.drew.alloc (.cells (os.toArray ++ vs.toArray ++ Builtin.zeroCells z.cells (grownCap w (sLen + n) sCap el - (sLen + n))) el)) := by
  have hn : ¬ (sLen + n ≤ sCap) := by omega
  have h63' : ¬ (9223372036854775807 < ((sLen : Int) + (n : Int))) := by omega
  have h48' : ¬ (281474976710656 < Builtin.nextslicecap (sLen + n) sCap * i.bytes) := by omega
  have ho' := ho w.drew rfl
  have hf' := hf w.drew rfl
  rcases notMade_cases hnm with h1 | ⟨u, d, h1, hd, hk⟩
  · simp [Builtin.append_, ht, h1, run_underlying hu, sizeOf, typeInfo, zeroValue, hi, hz, hl, hn, h63', h48', Question.forced, ho', hf', newRow, grownCap]
    rw [← Array.append_assoc]; simp
  · have hz' : (match d with | .int _ => true | _ => false) = false := by
      cases d <;> first | rfl | (exact absurd rfl (hk _))
    unfold Builtin.append_
    simp only [ht, h1, List.getElem?_toArray, List.getElem?_cons_zero, List.getElem?_cons_succ]
    rw [Sem.run_bind, run_underlying hu, Result.andThen_ok]
    simp only
    rw [Sem.run_bind, run_size hi, Result.andThen_ok]
    rw [Sem.run_bind, run_underlying hd, Result.andThen_ok]
    rw [Sem.run_bind, Sem.run_pure, Result.andThen_ok]
    simp [hz', sizeOf, typeInfo, zeroValue, hi, hz, hl, hn, h63', h48', Question.forced, ho', hf', newRow, grownCap]
    rw [← Array.append_assoc]; simp

/-- the row that a growing append makes -/
def grownRow (z : Array Value) (os vs : List Value) (k : Nat) : Array Value := os.toArray ++ vs.toArray ++ Builtin.zeroCells z k

theorem grownRow_one (w : World) (F : Nat → Prop) (μ : Map) {z : Array Value} {os vs : List Value} {k : Nat} (hz : ∀ x ∈ z.toList, one x = true) (ho : ∀ x ∈ os, one x = true) (hv : ∀ x ∈ vs, one x = true) : ∀ x ∈ (grownRow z os vs k).toList, one x = true := by
  intro x hx
  simp only [grownRow, Array.toList_append, List.mem_append] at hx
  rcases hx with (h | h) | h
  · exact ho x h
  · exact hv x h
  · obtain ⟨r1, r2⟩ := rel_rep (w := w) (F := F) (μ := μ) (z := z.toList.map ofScalar) (zs := z) (rel_scalars _) hz (s := z.size) (by simp) rfl k
    rw [builtinZero_eq] at h
    exact r2 x h

theorem grownRow_size (z : Array Value) (os vs : List Value) (k : Nat) : (grownRow z os vs k).size = os.length + vs.length + k * z.size := by
  simp [grownRow, builtinZero_eq, size_madeCells]

/-- a growing append, answered by a new block -/
theorem grow_sound (H : HRel w F μ h) {t el : TypeId} {ts : Array TypeId} {ty : TypeId} {base : Option Addr} {sLen sCap n : Nat} {x : Value} {os vs : List Value} {old new : List AV} {size bytes : Nat} (b : Blk) (hnm : notMade C ts = true) (ht : ts[0]? = some t) (hu : C.P.underlying t = some (.slice el)) (hk : (zeroCells C el).isSome = true)
    (hsz : sizeT C el = size) (hby : bytesT C el = bytes)
    (hl : ∀ w' : World, (Builtin.lenOf x).run C.P w' = .ok n w') (ho : ∀ w' : World, w'.heap = w.heap → (Builtin.firstCells size sLen (.slice base sLen sCap)).run C.P w' = .ok os.toArray w') (hf : ∀ w' : World, w'.heap = w.heap → (Builtin.firstCells size n x).run C.P w' = .ok vs.toArray w')
    (lo : os.length = sLen * size) (lv : vs.length = n * size) (ro : RelL w F old μ os) (rv : RelL w F new μ vs) (oo : ∀ x ∈ os, one x = true) (ov : ∀ x ∈ vs, one x = true)
    (hg : sCap < sLen + n) (hroom : roomOk (sLen + n) bytes = true)
    (hb1 : b.cells = old ++ new) (hb2 : b.kind = .row) (hb3 : b.whole = false) (hb4 : b.el = el) :
    OpOk C w F μ (do pure (.value (← Builtin.append_ ts ty #[.slice base sLen sCap, x]))) (.slO h.next 0 size (sLen + n) (sLen + n) false) (h.add b) := by
  obtain ⟨zc, hzc⟩ := Option.isSome_iff_exists.1 hk
  obtain ⟨i, z, hi, hz, rz, oz, l1, l2⟩ := rel_zero (w := w) (F := F) (μ := μ) hzc
  rw [sizeT_eq hi] at hsz
  subst hsz
  have hbt : bytesT C el = i.bytes := by simp [bytesT, hi]
  rw [hbt] at hby
  subst hby
  obtain ⟨r1, r2⟩ := room_of hroom
  have hrun := run_append_grow0 (C := C) (w := w) (ty := ty) hnm ht hu hi hz hl ho hf hg (by omega) (growslice_fits hg (by omega))
  have hge : sLen + n ≤ grownCap w (sLen + n) sCap el := grownCap_ge w _ _ _
  generalize hcap : grownCap w (sLen + n) sCap el = cap at hrun hge
  have hrow : (os.toArray ++ vs.toArray ++ Builtin.zeroCells z.cells (cap - (sLen + n))) = grownRow z.cells os vs (cap - (sLen + n)) := rfl
  rw [hrow] at hrun
  have hsize : (grownRow z.cells os vs (cap - (sLen + n))).size = cap * i.size := by
    rw [grownRow_size, lo, lv, l2, ← Nat.add_mul, ← Nat.add_mul]
    congr 1; omega
  have hone := grownRow_one w F μ (k := cap - (sLen + n)) oz oo ov
  generalize hR : grownRow z.cells os vs (cap - (sLen + n)) = R at hrun hsize hone
  have hlo := (RelL.get ro).1
  have hlv := (RelL.get rv).1
  have hget : ∀ (j : Nat) a, (old ++ new)[j]? = some a → ∃ v, R[j]? = some v ∧ Rel w F a μ v := by
    intro j a hj
    rw [← hR]
    have := relL_get (RelL.append ro rv) hj
    obtain ⟨v, q1, q2⟩ := this
    refine ⟨v, ?_, q2⟩
    have hlt := (List.getElem?_eq_some_iff.1 q1).1
    rw [grownRow, Array.getElem?_append_left (by simpa using hlt)]
    simpa using q1
  have H1 := H.drew
  have hp : μ h.next = .none := H.none_next
  have N := Next.allocAt { w with drawn := w.drawn + 1 } F μ (.cells R el) H1.dom hp
  have K := N.keeps H1
  refine ⟨.value (.slice (some ⟨w.heap.size, 0, none⟩) (sLen + n) cap), _, _, by simp only [Sem.run_bind, hrun]; rfl, .inl ⟨_, rfl, ?_⟩, (Next.drew w F μ).trans N,
    H1.addAt (pos := h.next) (b := b) (.cells R el) hp (fun j => Heap.get_add h _ j) (Nat.le_succ _) (Nat.lt_succ_self _) ?_ ?_ ?_ ?_⟩
  · unfold Rel
    exact ⟨w.heap.size, 0, _, cap, Map.set_same _ _ _, rfl, Nat.le_refl _, hge, (fun e => by cases e), fun _ => ⟨rfl, R, el, (0, 0), heap_alloc_new _ _, by rw [hsize]; omega⟩⟩
  · intro _
    refine ⟨R, el, (0, 0), heap_alloc_new _ _, ?_, ?_, ?_, ?_⟩
    · rw [hb1, hsize, List.length_append, hlo, hlv, lo, lv, ← Nat.add_mul, Nat.zero_add]
      exact Nat.mul_le_mul_right _ hge
    · intro j a hj
      rw [hb1] at hj
      obtain ⟨v, q1, q2⟩ := hget j a hj
      exact ⟨v, by rw [Nat.zero_add]; exact q1, Rel.mono a ((Next.drew w F μ).keeps H |>.trans K) v q2⟩
    · intro j v hj
      exact hone v (List.mem_of_getElem? (by simpa using hj))
    · intro _ j _; simp
  · intro _; exact ⟨R, (0, 0), by rw [hb4], fun e => by rw [hb3] at e; cases e⟩
  · intro s p e; rw [hb2] at e; cases e
  · intro nn tm ps x y j st e; rw [hb2] at e; cases e
end
end
end Go.Abs
namespace Go.Abs
noncomputable section
open Go
section
variable {C : Cfg} {w : World} {F : Nat → Prop} {μ : Map} {h : Heap}
theorem first_nil {P : Program} (size n l c : Nat) (w' : World) : (Builtin.firstCells size n (.slice none l c)).run P w' = .ok ([] : List Value).toArray w' := rfl

/-- an append in place, where the abstract interpreter knows of no room -/
theorem fork_sound (H : HRel w F μ h) {t el : TypeId} {ts : Array TypeId} {ty : TypeId} {id off len c n b o : Nat} {x : Value} {vs : List Value} {old new : List AV} {bl : Blk} {i : TypeInfo}
    (hnm : notMade C ts = true) (ht : ts[0]? = some t) (hu : C.P.underlying t = some (.slice el)) (hi : C.P.info? el = some i)
    (hl : (Builtin.lenOf x).run C.P w = .ok n w) (hf : (Builtin.firstCells i.size n x).run C.P w = .ok vs.toArray w)
    (lv : vs.length = n * i.size) (rv : RelL w F new μ vs) (ov : ∀ x ∈ vs, one x = true)
    (hm : μ id = some (b, o)) (hb : h.get id = some bl) (hk : bl.kind = .row) (hfz : bl.frz = false)
    (hold : cellsAt h id off (len * i.size) = some old)
    (hroom : len + n ≤ c) (hin : ∃ cells el fr, w.heap[b]? = some (.cells cells el fr) ∧ o + off + c * i.size ≤ cells.size) :
    OpOk C w F μ (do pure (.value (← Builtin.append_ ts ty #[.slice (some ⟨b, o + off, none⟩) len c, x]))) (.slO h.next 0 i.size (len + n) (len + n) false)
      ((forkHeap h id bl (bl.base + off + len * i.size) (bl.base + off + len * i.size + n * i.size)).add { cells := old ++ new, grp := bl.grp, base := bl.base + off, forked := true, frz := false, ver := 0, el := bl.el, whole := false, kind := .row }) := by
  obtain ⟨cells, el', fr, hw, hsz⟩ := hin
  obtain ⟨b', o', hm', cells2, el2, fr2, hw2, hle, hcell, hone, hfr⟩ := H.row id bl hb hk
  rw [hm] at hm'; cases hm'
  rw [hw] at hw2; cases hw2
  have hmul : (len + n) * i.size ≤ c * i.size := Nat.mul_le_mul_right _ hroom
  rw [Nat.add_mul] at hmul
  -- the old cells
  have hold' : partN bl.cells off (len * i.size) = some old := by
    unfold cellsAt at hold
    rw [hb] at hold
    simp only [Kind.isRow_iff.2 hk, cond_true] at hold
    exact hold
  obtain ⟨p1, p2, p3⟩ := partN_some hold'
  -- the store
  have hst := run_storeCells_cells (P := C.P) b (o + off + len * i.size) vs 0 w (by
    intro j hj
    simp [World.cell?, hw, show o + off + len * i.size + j < cells.size by omega]) (by
    intro j hj
    have := hfr hfz (o + off + len * i.size + j) (by omega)
    obtain ⟨lo, hi⟩ := fr
    simp [World.frozen?, hw]
    simp at this
    omega) (by intro y hy; rw [one_eq]; exact ov y hy)
  rw [Nat.add_zero] at hst
  have hrun := run_append_room0 (C := C) (ty := ty) (base := some ⟨b, o + off, none⟩) hnm ht hu hi hl hf hroom (fun a ha => by cases ha; rw [addr_add]; exact hst) (fun e => by cases e)
  -- the heap
  have H1 := H.forkHeap hb (bl.base + off + len * i.size) (bl.base + off + len * i.size + n * i.size)
  have hN1 : (forkHeap h id bl (bl.base + off + len * i.size) (bl.base + off + len * i.size + n * i.size)).next = h.next := by unfold Abs.forkHeap; simp
  have grpOf : ∀ j b0 oj, h.get j = some b0 → live b0 → μ j = some (b, oj) → b0.grp = bl.grp ∧ oj + bl.base = o + b0.base ∧ (j ≠ id → b0.forked = true) := by
    intro j b0 oj h0 l0 mj
    obtain ⟨g1, g2, g3⟩ := H.grp j id b0 bl b oj o h0 hb l0 (by simp [live, hk]) mj hm
    exact ⟨g1, g2, g3⟩
  have H2 := H1.deadSet hm (o + off + len * i.size) vs ov hw (by omega) (by
    intro j b1 oj hj hk1 mj k a hka hlo hhi
    obtain ⟨b0, h0, rfl⟩ := get_forkHeap H.lt hb hj
    have hk0 : (if j = id then { b0 with forked := true, ver := Nat.succ b0.ver } else b0).kind = .row := by simpa using hk1
    have hk0' : b0.kind = .row := by
      by_cases e : j = id
      · rw [if_pos e] at hk0; exact hk0
      · rw [if_neg e] at hk0; exact hk0
    obtain ⟨g1, g2, _⟩ := grpOf j b0 oj h0 (by simp [live, hk0']) mj
    rcases killB_cell hk0 hka with rfl | ⟨_, hno⟩
    · rfl
    · exfalso
      have e1 : (if j = id then { b0 with forked := true, ver := Nat.succ b0.ver } else b0).grp = b0.grp := by split <;> rfl
      have e2 : (if j = id then { b0 with forked := true, ver := Nat.succ b0.ver } else b0).base = b0.base := by split <;> rfl
      rw [e1, e2] at hno
      exact hno g1 ⟨by omega, by omega⟩)
  have N1 := Next.setCells H hm (o + off + len * i.size) vs hw (by omega)
  have hp : μ h.next = .none := H.none_next
  obtain ⟨cells', q1, q2, q3⟩ := setCells_heap_same b vs (o + off + len * i.size) w cells el' fr hw (by omega)
  have N2 := Next.share (w := w.setCells b (o + off + len * i.size) vs) (F := F) (o2 := o + off) hm hp
  have K := (N1.trans N2).keeps H
  have hlv := (RelL.get rv).1
  have htyp := H.typ id bl hb hk b o hm
  refine ⟨.value (.slice (some ⟨b, o + off, none⟩) (len + n) c), _, μ.set h.next (b, o + off), by simp only [Sem.run_bind, hrun]; rfl, .inl ⟨_, rfl, ?_⟩, N1.trans N2, ?_⟩
  · unfold Rel
    exact ⟨b, o + off, _, c, Map.set_same _ _ _, rfl, Nat.le_refl _, hroom, (fun e => by cases e), fun _ => ⟨rfl, cells', el', fr, q1, by omega⟩⟩
  · have H3 := H2.share (b := { cells := old ++ new, grp := bl.grp, base := bl.base + off, forked := true, frz := false, ver := 0, el := bl.el, whole := false, kind := .row }) (o2 := o + off) hm (by rw [hN1]; exact hp) rfl rfl (by
      rw [hN1]
      refine ⟨cells', el', fr, q1, by simp [p3]; omega, ?_, ?_, ?_⟩
      · intro k a hka
        simp only at hka
        rw [List.getElem?_append] at hka
        split at hka
        · rename_i hlt
          rw [p2, List.getElem?_take] at hka
          rw [p3] at hlt
          rw [if_pos hlt, List.getElem?_drop] at hka
          obtain ⟨v, r1, r2⟩ := hcell _ _ hka
          refine ⟨v, ?_, Rel.mono a K v r2⟩
          rw [q3, if_neg (by omega), ← r1]
          congr 1; omega
        · rename_i hlt
          rw [p3] at hka hlt
          obtain ⟨v, r1, r2⟩ := relL_get rv hka
          refine ⟨v, ?_, Rel.mono a K v r2⟩
          have := (List.getElem?_eq_some_iff.1 r1).1
          rw [q3, if_pos (by omega), ← r1]
          congr 1; omega
      · intro k v hkv
        rw [q3] at hkv
        split at hkv
        · exact ov v (List.mem_of_getElem? hkv)
        · exact hone k v hkv
      · intro _ k hk; exact hfr hfz k (by omega)) (by
      obtain ⟨cs, f, t1, _⟩ := htyp
      rw [hw] at t1; cases t1
      exact ⟨cells', _, q1⟩) rfl (by
      intro j bj oj hj lj mj
      obtain ⟨b0, h0, rfl⟩ := get_forkHeap H.lt hb hj
      have l0 : live b0 := by
        unfold live at *
        by_cases e : j = id
        · rw [if_pos e] at lj; simpa using lj
        · rw [if_neg e] at lj; simpa using lj
      obtain ⟨g1, g2, g3⟩ := grpOf j b0 oj h0 l0 mj
      simp only [killB_grp, killB_base, killB_forked]
      by_cases e : j = id
      · rw [if_pos e]; exact ⟨g1, by simp only; omega, rfl⟩
      · rw [if_neg e]; exact ⟨g1, by omega, g3 e⟩)
    rw [hN1] at H3
    exact H3
end
end
end Go.Abs
namespace Go.Abs
noncomputable section
open Go
section
variable {C : Cfg} {w : World} {F : Nat → Prop} {μ : Map} {h : Heap}
theorem storeCells_nil {P : Program} (a : Addr) : (storeCells a []).run P w = .ok () w := rfl

theorem allA_first {h : Heap} {size n : Nat} {x : AV} {new : List AV} (e : allA h size n x = some new) (hn : lenA x = some n) : firstA h size n x = some new := by
  unfold allA at e
  split at e
  · rename_i t l ex
    cases hn
    cases hb : Nat.beq size (width t) with
    | false => rw [hb] at e; cases e
    | true =>
      rw [hb] at e
      show (bif Nat.beq size (width t) && Nat.ble l.length l.length then some (flatT t (l.take l.length)) else none) = _
      rw [hb, show Nat.ble l.length l.length = true from Nat.ble_eq_true_of_le (Nat.le_refl _), List.take_length]
      exact e
  · exact e
theorem append_sound0 (H : HRel w F μ h) {t el : TypeId} {ts : Array TypeId} {ty : TypeId} {s x a : AV} {vs vx : Value} {h' : Heap} (hnm : notMade C ts = true) (ht : ts[0]? = some t) (hu : C.P.underlying t = some (.slice el)) (hk : (zeroCells C el).isSome = true)
    (rs : Rel w F s μ vs) (rx : Rel w F x μ vx) (e : appendA h el (sizeT C el) (bytesT C el) s x = some (a, h')) (hs : ∀ t l ex, s ≠ .slT t l ex) : OpOk C w F μ (do pure (.value (← Builtin.append_ ts ty #[vs, vx]))) a h' := by
  obtain ⟨zc, hzc⟩ := Option.isSome_iff_exists.1 hk
  obtain ⟨i, z, hi, hz, _⟩ := rel_zero (w := w) (F := F) (μ := μ) hzc
  have hsz := sizeT_eq hi
  unfold appendA at e
  split at e
  · cases e
  · rename_i n hn
    split at e
    · cases e
    · rename_i new hnew
      replace hnew := allA_first hnew hn
      obtain ⟨news, f1, f2, f3, f4⟩ := first_sound (C := C) H rx hnew hn (Nat.le_refl n)
      have hlen := fun w' => rel_len (C := C) hn rx w'
      split at e
      · -- onto nil
        rw [rel_nils rs]
        cases h0 : Nat.beq n 0 with
        | true =>
          rw [h0] at e; cases e
          obtain rfl := Nat.eq_of_beq_eq_true h0
          have : news = [] := by simpa using f1
          subst this
          have hf := f4 w rfl
          rw [hsz] at hf
          exact OpOk.val H ⟨_, run_append_room0 (C := C) hnm ht hu hi (hlen w) hf (Nat.le_refl _) (fun a ha => by cases ha) (fun _ => rfl), by unfold Rel; rfl⟩
        | false =>
          rw [h0] at e
          simp only [cond_false] at e
          have h0 : n ≠ 0 := fun e => by subst e; cases h0
          cases hr : roomOk n (bytesT C el) with
          | false => rw [hr] at e; cases e
          | true =>
            rw [hr] at e
            cases e
            have := grow_sound (C := C) (ty := ty) H (base := none) (sLen := 0) (sCap := 0) (os := []) (old := []) (newBlk h.next el false new) hnm ht hu hk rfl rfl hlen (fun w' _ => first_nil _ _ _ _ w') f4 (by simp) f1 (by unfold RelL; rfl) f2 (fun y hy => by cases hy) f3 (by omega) (by simpa using hr) rfl rfl rfl rfl
            rw [Nat.zero_add] at this
            exact this
      · -- onto an own slice
        rename_i id off es len cap ex
        unfold appendO at e
        cases hes : Nat.beq es (sizeT C el) with
        | false => rw [hes] at e; cases e
        | true =>
          rw [hes] at e
          simp only [Bool.not_true, cond_false] at e
          obtain rfl := Nat.eq_of_beq_eq_true hes
          obtain ⟨b, o, ad, c, m1, rfl, h3, h4, h5, h6⟩ := rel_slO rs
          cases hroom : Nat.ble (Nat.add len n) cap with
          | true =>
            rw [hroom] at e
            simp only [cond_true] at e
            have hroom : len + n ≤ cap := Nat.le_of_ble_eq_true hroom
            split at e
            · rename_i h2 hs
              cases e
              have hf := f4 w rfl
              rw [hsz] at hf
              obtain ⟨s1, s2, s3⟩ := store_run (C := C) H hs f2 f3 m1
              have hrel : ∀ w' μ', μ' = μ → Keeps w F μ w' F μ' → Rel w' F (.slO id off (sizeT C el) (len + n) cap ex) μ' (.slice (some ad) (len + n) c) := by
                intro w' μ' e K
                subst e
                unfold Rel
                refine ⟨b, o, ad, c, m1, rfl, hroom, h4, h5, fun hc => ?_⟩
                obtain ⟨g1, cells, el', fr, g2, g3⟩ := h6 hc
                obtain ⟨cells', el2, fr2, g4, g5⟩ := K.rows id b o m1 cells el' fr g2
                exact ⟨g1, cells', el2, fr2, g4, by omega⟩
              by_cases hc : c = 0
              · obtain rfl : n = 0 := by omega
                have : news = [] := by simpa using f1
                subst this
                refine ⟨.value _, w, μ, ?_, .inl ⟨_, rfl, hrel w μ rfl (Keeps.refl w F μ)⟩, Next.refl w F μ, s2⟩
                simp only [Sem.run_bind]
                rw [run_append_room0 (C := C) (w' := w) hnm ht hu hi (hlen w) hf (by omega) (fun a ha => storeCells_nil _) (fun _ => rfl)]
                rfl
              · obtain ⟨rfl, _⟩ := h6 hc
                refine ⟨.value _, _, μ, ?_, .inl ⟨_, rfl, hrel _ μ rfl (s3.keeps H)⟩, s3, s2⟩
                simp only [Sem.run_bind]
                rw [run_append_room0 (C := C) hnm ht hu hi (hlen w) hf (by omega) (fun a ha => by cases ha; rw [addr_add, Nat.add_assoc, ← hsz]; exact s1) (fun e => by cases e)]
                rfl
            · cases e
          | false =>
            rw [hroom] at e
            simp only [cond_false] at e
            have hroom : ¬ (len + n ≤ cap) := fun hle => by
              have : Nat.ble (Nat.add len n) cap = true := Nat.ble_eq_true_of_le hle
              rw [this] at hroom; cases hroom
            cases hr : roomOk (Nat.add len n) (bytesT C el) with
            | false => rw [hr] at e; cases e
            | true =>
              rw [hr] at e
              simp only [Bool.not_true, cond_false] at e
              split at e
              · cases e
              · rename_i old hold
                obtain ⟨os, o1, o2, o3, o4⟩ := first_sound (C := C) (n := len) (size := sizeT C el) (m := len) H rs hold rfl (Nat.le_refl _)
                cases ex with
                | true =>
                  obtain rfl := h5 rfl
                  cases e
                  exact grow_sound (C := C) (ty := ty) H (newBlk h.next el false (old ++ new)) hnm ht hu hk rfl rfl hlen o4 f4 o1 f1 o2 f2 o3 f3 (by omega) hr rfl rfl rfl rfl
                | false =>
                  simp only [cond_false] at e
                  split at e
                  · cases e
                  · rename_i bl hb
                    cases hcond : (bl.frz || !(Nat.beq bl.el el)) with
                    | true => rw [hcond] at e; cases e
                    | false =>
                      rw [hcond] at e
                      simp only [cond_false] at e
                      rw [Bool.or_eq_false_iff, Bool.not_eq_false'] at hcond
                      obtain ⟨hfz, hel⟩ := hcond
                      have hel := Nat.eq_of_beq_eq_true hel
                      have hkr : bl.kind = .row := by
                        unfold cellsAt at hold
                        rw [hb] at hold
                        cases hkk : bl.kind.isRow with
                        | true => exact Kind.isRow_iff.1 hkk
                        | false => simp [hkk] at hold
                      unfold appendFork at e
                      cases e
                      by_cases hin : len + n ≤ c
                      · have hc : c ≠ 0 := by omega
                        obtain ⟨rfl, hrow⟩ := h6 hc
                        rw [hsz] at hold hrow f1 f4 ⊢
                        exact fork_sound (C := C) (ty := ty) H hnm ht hu hi (hlen w) (f4 w rfl) f1 f2 f3 m1 hb hkr hfz hold hin hrow
                      · have H1 := H.forkHeap hb (bl.base + off + len * sizeT C el) (bl.base + off + len * sizeT C el + n * sizeT C el)
                        have hN1 : (forkHeap h id bl (bl.base + off + len * sizeT C el) (bl.base + off + len * sizeT C el + n * sizeT C el)).next = h.next := by unfold Abs.forkHeap; simp
                        have := grow_sound (C := C) (ty := ty) H1 { cells := old ++ new, grp := bl.grp, base := bl.base + off, forked := true, frz := false, ver := 0, el := bl.el, whole := false, kind := .row } hnm ht hu hk rfl rfl hlen o4 f4 o1 f1 o2 f2 o3 f3 (by omega) hr rfl rfl rfl hel
                        rw [hN1] at this
                        exact this
      · -- onto a read-only slice
        rename_i cs off len cap ex
        obtain ⟨b, o, ad, c, m1, rfl, h3, h4, h5, h6, h7⟩ := rel_slR rs
        unfold appendR at e
        cases h0 : Nat.beq n 0 with
        | true =>
          rw [h0] at e; cases e
          obtain rfl := Nat.eq_of_beq_eq_true h0
          have : news = [] := by simpa using f1
          subst this
          have hf := f4 w rfl
          rw [hsz] at hf
          exact OpOk.val H ⟨_, run_append_room0 (C := C) hnm ht hu hi (hlen w) hf (by omega) (fun a ha => storeCells_nil _) (fun _ => rfl), rs⟩
        | false =>
          rw [h0] at e
          simp only [cond_false] at e
          cases hcond : (Nat.ble (Nat.add len n) cap || !ex || !(roomOk (Nat.add len n) (bytesT C el))) with
          | true => rw [hcond] at e; cases e
          | false =>
            rw [hcond] at e
            simp only [cond_false] at e
            simp only [Bool.or_eq_false_iff, Bool.not_eq_false'] at hcond
            obtain ⟨⟨c1, c2⟩, c3⟩ := hcond
            have hroom : ¬ (len + n ≤ cap) := fun hle => by
              have : Nat.ble (Nat.add len n) cap = true := Nat.ble_eq_true_of_le hle
              rw [this] at c1; cases c1
            obtain rfl := h5 c2
            split at e
            · rename_i old hold
              cases e
              obtain ⟨os, o1, o2, o3, o4⟩ := first_sound (C := C) (n := len) (size := sizeT C el) (m := len) H rs (show firstA h (sizeT C el) len (.slR cs off len _ ex) = some old from hold) rfl (Nat.le_refl _)
              exact grow_sound (C := C) (ty := ty) H (newBlk h.next el false (old ++ new)) hnm ht hu hk rfl rfl hlen o4 f4 o1 f1 o2 f2 o3 f3 (by omega) c3 rfl rfl rfl rfl
            · cases e
      · rename_i pt l ex; exact absurd rfl (hs pt l ex)
      · cases e
theorem append_sound (H : HRel w F μ h) {t el : TypeId} {ts : Array TypeId} {ty : TypeId} {s x a : AV} {vs vx : Value} {h' : Heap} (hnm : notMade C ts = true) (ht : ts[0]? = some t) (hu : C.P.underlying t = some (.slice el)) (hk : (zeroCells C el).isSome = true)
    (rs : Rel w F s μ vs) (rx : Rel w F x μ vx) (e : appendA h el (sizeT C el) (bytesT C el) s x = some (a, h')) : OpOk C w F μ (do pure (.value (← Builtin.append_ ts ty #[vs, vx]))) a h' := by
  by_cases hs : ∀ t l ex, s ≠ .slT t l ex
  · exact append_sound0 H hnm ht hu hk rs rx e hs
  · simp only [ne_eq, Classical.not_forall, Classical.not_not] at hs
    obtain ⟨pt, l, ex, rfl⟩ := hs
    have hlenx := e
    unfold appendA at e
    split at e
    · cases e
    · rename_i n hn
      split at e
      · cases e
      · rename_i new hnew
        simp only at e
        unfold appendT at e
        cases h0 : Nat.beq n 0 with
        | true =>
          rw [h0] at e; cases e
          obtain ⟨zc, hzc⟩ := Option.isSome_iff_exists.1 hk
          obtain ⟨i, z, hi, hz, _⟩ := rel_zero (w := w) (F := F) (μ := μ) hzc
          have hsz := sizeT_eq hi
          obtain rfl := Nat.eq_of_beq_eq_true h0
          obtain ⟨news, f1, f2, f3, f4⟩ := first_sound (C := C) H rx (allA_first hnew hn) hn (Nat.le_refl _)
          have hlen := rel_len (C := C) hn rx w
          have : news = [] := by simpa using f1
          subst this
          have hf := f4 w rfl
          rw [hsz] at hf
          rcases slT_R rs with ⟨hl, rfl⟩ | ⟨cap, hR, _⟩
          · exact OpOk.val H ⟨_, run_append_room0 (C := C) hnm ht hu hi hlen hf (Nat.le_refl _) (fun a ha => by cases ha) (fun _ => rfl), rs⟩
          · obtain ⟨b, o, ad, c, m1, rfl, h3, h4, h5, h6, h7⟩ := rel_slR hR
            exact OpOk.val H ⟨_, run_append_room0 (C := C) hnm ht hu hi hlen hf (by omega) (fun a ha => storeCells_nil _) (fun _ => rfl), rs⟩
        | false =>
          rw [h0] at e
          simp only [cond_false] at e
          have hn0 : n ≠ 0 := fun e => by subst e; cases h0
          cases hc : (!ex || !(roomOk (Nat.add l.length n) (bytesT C el)) || !(Nat.beq (sizeT C el) (width pt))) with
          | true => rw [hc] at e; cases e
          | false =>
            rw [hc] at e
            simp only [cond_false] at e
            simp only [Bool.or_eq_false_iff, Bool.not_eq_false'] at hc
            obtain ⟨⟨c1, c2⟩, c3⟩ := hc
            subst c1
            have hw := of_beq c3
            rcases slT_R rs with ⟨hl, rfl⟩ | ⟨cap, hR, hcap⟩
            · subst hl
              refine append_sound0 (C := C) (ty := ty) (s := .nils) H hnm ht hu hk (by unfold Rel; rfl) rx ?_ (fun _ _ _ h => by cases h)
              have c2 : roomOk n (bytesT C el) = true := by have : Nat.add ([] : List (El pt)).length n = n := Nat.zero_add n; rw [this] at c2; exact c2
              unfold appendA; rw [hn]; simp only; rw [hnew]; simp only; rw [h0, c2]
              have : Nat.add ([] : List (El pt)).length n = n := Nat.zero_add n
              rw [this] at e
              exact e
            · obtain rfl := hcap rfl
              refine append_sound0 (C := C) (ty := ty) H hnm ht hu hk hR rx ?_ (fun _ _ _ h => by cases h)
              unfold appendA; rw [hn]; simp only; rw [hnew]; simp only
              unfold appendR
              rw [h0]
              have hb : Nat.ble (Nat.add l.length n) l.length = false := by
                cases hb : Nat.ble (Nat.add l.length n) l.length with
                | false => rfl
                | true => have := Nat.le_of_ble_eq_true hb; have h2 : l.length + n ≤ l.length := this; omega
              rw [hb, c2]
              have hp : partN (flatT pt l) 0 (Nat.mul l.length (sizeT C el)) = some (flatT pt l) := by
                unfold partN
                simp only [lenN_eq, takeN_eq, dropN_eq, flatT_len]
                rw [hw]
                rw [show Nat.ble (Nat.add 0 (Nat.mul l.length (width pt))) (l.length * width pt) = true from Nat.ble_eq_true_of_le (by show 0 + l.length * width pt ≤ _; omega)]
                simp only [cond_true, List.drop_zero]
                rw [List.take_of_length_le (by rw [flatT_len]; exact Nat.le_refl _)]
              simp only [Bool.not_true, Bool.or_false, cond_false]
              rw [hp]
              exact e

/-! ### strings out of bytes -/
theorem liesAt_ones {P : Program} {e : TypeId} (hc : P.cellsOf e = 1) {count off n : Nat} (hn : off + n ≤ count) : liesAt P P.depth e count off e n = true := by
  have hd : P.depth = (2 * (P.types.size + Made.depth) + 1) + 1 := rfl
  rw [hd]
  simp only [liesAt, Bool.or_eq_true]
  left
  rw [hd]
  simp only [rowAt, hc]
  simp [hn, sameLayout, Nat.mod_one]

theorem run_unsafeString {t el : TypeId} {ts : Array TypeId} {ty : TypeId} {b p cells : Nat} {k : IntKind} (ns : List Int) (ht : ts[0]? = some t) (hu : C.P.underlying t = some (.pointer el)) (hc : C.P.cellsOf el = 1) (hsh : w.shape? b = some (el, cells)) (h0 : ns ≠ []) (hn : p + ns.length ≤ cells) (h63 : ns.length ≤ 4611686018427387904)
    (hcell : ∀ j x, (ns.map (Value.int .u8))[j]? = some x → w.cell? ((⟨b, p, none⟩ : Addr).add j) = some x) :
    (Builtin.unsafeString_ ts ty #[.pointer (some ⟨b, p, none⟩), .int k ns.length]).run C.P w = .ok (.string ⟨⟨ns.map fun n => UInt8.ofNat n.toNat⟩⟩) (w.freeze ⟨b, p, none⟩ ns.length) := by
  have hl : ns.length ≠ 0 := by simpa using h0
  have hlb := run_loadBytes_ints (P := C.P) ns ⟨b, p, none⟩ .empty hcell
  have hlies := liesAt_ones (P := C.P) hc (count := cells / C.P.cellsOf el) (off := p) (n := ns.length) (by rw [hc]; simpa using hn)
  have h63' : ¬ (9223372036854775807 : Int) < (ns.length : Int) := by omega
  obtain ⟨s0, s1, u2, u3, hdef⟩ : ∃ (s0 : String) (s1 : String) (u2 : _) (u3 : _), Builtin.unsafeString_ ts ty #[.pointer (some ⟨b, p, none⟩), .int k ns.length] =
      (do
        let n ← asInt (.int k ns.length)
        let some pt := ts[0]? | stuck s0
        if n < 0 then runtimePanic (.error s1)
        if n > IntKind.i64.max then unsupported u2
        if n = 0 then pure (.string .empty)
        else if ← variablesAt ⟨b, p, none⟩ (← elemOf pt) n.toNat then do
          let s ← loadBytes ⟨b, p, none⟩ .empty n.toNat
          freeze ⟨b, p, none⟩ n.toNat
          pure (.string s)
        else unsupported u3) := ⟨_, _, _, _, rfl⟩
  rw [hdef]
  have hmax : IntKind.i64.max = 9223372036854775807 := rfl
  have hneg : ¬ (ns.length : Int) < 0 := by omega
  simp [asInt, asIntOf, hmax, h63', hneg, hl, variablesAt, hsh, elemOf, ht, run_underlying hu, hlies, hlb]

theorem run_unsafeString0 {t : TypeId} {ts : Array TypeId} {ty : TypeId} {k : IntKind} (ht : ts[0]? = some t) (p : Option Addr) : (Builtin.unsafeString_ ts ty #[.pointer p, .int k 0]).run C.P w = .ok (.string .empty) w := by
  have hmax : IntKind.i64.max = 9223372036854775807 := rfl
  cases p with
  | none =>
    obtain ⟨s0, s1, s2, u3, hdef⟩ : ∃ (s0 : String) (s1 : String) (s2 : String) (u3 : _), Builtin.unsafeString_ ts ty #[.pointer none, .int k 0] =
        (do
          let n ← asInt (.int k 0)
          let some _ := ts[0]? | stuck s0
          if n < 0 then runtimePanic (.error s1)
          if n > IntKind.i64.max then unsupported u3
          if n = 0 then pure (.string .empty)
          else runtimePanic (.error s2)) := ⟨_, _, _, _, rfl⟩
    rw [hdef]
    simp [asInt, asIntOf, hmax, ht]
  | some a =>
    obtain ⟨s0, s1, u2, u3, hdef⟩ : ∃ (s0 : String) (s1 : String) (u2 : _) (u3 : _), Builtin.unsafeString_ ts ty #[.pointer (some a), .int k 0] =
        (do
          let n ← asInt (.int k 0)
          let some pt := ts[0]? | stuck s0
          if n < 0 then runtimePanic (.error s1)
          if n > IntKind.i64.max then unsupported u2
          if n = 0 then pure (.string .empty)
          else if ← variablesAt a (← elemOf pt) n.toNat then do
            let s ← loadBytes a .empty n.toNat
            freeze a n.toNat
            pure (.string s)
          else unsupported u3) := ⟨_, _, _, _, rfl⟩
    rw [hdef]
    simp [asInt, asIntOf, hmax, ht]

theorem biString_sound (H : HRel w F μ h) {t : TypeId} {ts : Array TypeId} {ty : TypeId} {x a : AV} {v : Value} {k : IntKind} {n : Nat} {h' : Heap} (ht : ts[0]? = some t) (r : Rel w F x μ v) (e : biString C h t x n = some (a, h')) :
    OpOk C w F μ (do pure (.value (← Builtin.unsafeString_ ts ty #[v, .int k n]))) a h' := by
  unfold biString at e
  split at e
  · cases h0 : Nat.beq n 0 with
    | false => rw [h0] at e; cases e
    | true =>
      rw [h0] at e; cases e
      obtain rfl := Nat.eq_of_beq_eq_true h0
      obtain rfl : v = .pointer none := by unfold Rel at r; exact r
      exact OpOk.val H ⟨_, run_unsafeString0 (C := C) ht none, mk_str []⟩
  · rename_i id off
    obtain ⟨b, o, hm, rfl⟩ : ∃ b o, μ id = some (b, o) ∧ v = .pointer (some ⟨b, o + off, none⟩) := by unfold Rel at r; exact r
    cases h0 : Nat.beq n 0 with
    | true =>
      rw [h0] at e; cases e
      obtain rfl := Nat.eq_of_beq_eq_true h0
      exact OpOk.val H ⟨_, run_unsafeString0 (C := C) ht _, mk_str []⟩
    | false =>
      rw [h0] at e
      have h0 : n ≠ 0 := fun e => by subst e; cases h0
      simp only [cond_false] at e
      cases h62 : Nat.ble n 4611686018427387904 with
      | false => rw [h62] at e; cases e
      | true =>
        rw [h62] at e
        have h62 := Nat.le_of_ble_eq_true h62
        simp only [Bool.not_true, cond_false] at e
        split at e
        · rename_i cs bl hcs hb
          split at e
          · rename_i el q hu hq
            cases hcond : (Nat.beq el bl.el && Nat.beq (C.P.cellsOf el) 1) with
            | false => rw [hcond] at e; cases e
            | true =>
              rw [hcond] at e
              cases e
              rw [Bool.and_eq_true] at hcond
              obtain rfl := Nat.eq_of_beq_eq_true hcond.1
              have hc1 := Nat.eq_of_beq_eq_true hcond.2
              have hkr : bl.kind = .row := by
                unfold cellsAt at hcs
                rw [hb] at hcs
                cases hkk : bl.kind.isRow with
                | true => exact Kind.isRow_iff.1 hkk
                | false => simp [hkk] at hcs
              obtain ⟨b', o', vs, q1, q2, q3, q4, q5⟩ := read_sound (p := .ptrO id off) H r (show readAt h (.ptrO id off) n = some cs from hcs)
              simp only [Value.pointer.injEq, Option.some.injEq, Addr.mk.injEq, and_true] at q1
              obtain ⟨rfl, rfl⟩ := q1
              obtain ⟨ns, rfl, rfl⟩ := bytesOf_sound _ _ _ hq q4
              have hlen : ns.length = n := by simpa using q2
              subst hlen
              obtain ⟨cells, fr, hw, _⟩ := H.typ id bl hb hkr b o hm
              obtain ⟨b2, o2, hm2, cells2, el2, fr2, hw2, hle, _⟩ := H.row id bl hb hkr
              rw [hm] at hm2; cases hm2
              rw [hw] at hw2; cases hw2
              have hin : off + ns.length ≤ bl.cells.length := by
                unfold cellsAt at hcs
                rw [hb] at hcs
                simp only [Kind.isRow_iff.2 hkr, cond_true] at hcs
                exact (partN_some hcs).1
              have hrun := run_unsafeString (C := C) (w := w) (ty := ty) (b := b) (p := o + off) (cells := cells.size) (k := k) ns ht hu hc1 (by simp [World.shape?, hw]) (fun e => by subst e; exact h0 rfl) (by omega) h62 (fun j x hj => by rw [addr_add]; exact q3 j x hj)
              obtain ⟨H', N⟩ := H.freeze hb hkr hm (o + off) ns.length
              exact ⟨.value _, _, μ, by simp only [Sem.run_bind, hrun]; rfl, .inl ⟨_, rfl, mk_str _⟩, N, H'⟩
          · cases e
        · cases e
  · cases e
end
end
end Go.Abs
namespace Go.Abs
noncomputable section
open Go
section
variable {C : Cfg} {w : World} {F : Nat → Prop} {μ : Map} {h : Heap} {tm : T AV} {a : Act}
theorem opKeep {s : Sem Value} {x : Option AV} {y : AV} {h' : Heap} (H : HRel w F μ h) (e : Abs.keep h x = some (y, h')) (k : ∀ y, x = some y → ∃ v, s.run C.P w = .ok v w ∧ Rel w F y μ v) : OpOk C w F μ (do pure (.value (← s))) y h' := by
  obtain ⟨e1, rfl⟩ := keep_some e
  exact OpOk.val H (k y e1)

theorem relO_of (G : GRel C w F) (ht : TmR w F μ tm a.tmps) (x : Option Operand) : RelO w F μ (optO C tm x) (x.map a.eval) := by
  cases x with
  | none => trivial
  | some x => exact rel_operand G ht x

theorem rel_array (G : GRel C w F) (ht : TmR w F μ tm a.tmps) (l : Array Operand) : RelL w F (evalL C tm l.toList) μ (l.map a.eval).toList := by
  rw [Array.toList_map]; exact rel_operands G ht l.toList

theorem opSlice_sound (H : HRel w F μ h) {t : TypeId} {x y : AV} {v : Value} {lo hi mx : Option AV} {vlo vhi vmx : Option Value} (e : opSlice C h t x lo hi mx = some y) (r : Rel w F x μ v)
    (rl : RelO w F μ lo vlo) (rh : RelO w F μ hi vhi) (rm : RelO w F μ mx vmx) : ∃ u, (Instr.sliceAt t v vlo vhi vmx).run C.P w = .ok u w ∧ Rel w F y μ u := by
  unfold opSlice at e
  split at e
  · rename_i hu; exact sliceS_sound hu e r rl rh rm
  · rename_i el hu
    cases hk : knownT C el with
    | false => rw [hk] at e; cases e
    | true =>
      rw [hk] at e
      obtain ⟨i, hi⟩ := knownT_info hk
      rw [sizeT_eq hi] at e
      exact sliceV_sound hu hi e r rl rh rm
  · rename_i n el hu
    cases hm : mx.isSome with
    | true => rw [hm] at e; cases e
    | false =>
      rw [hm] at e
      cases hk : (knownT C el && inRow h x (Nat.mul n (sizeT C el))) with
      | false => rw [hk] at e; cases e
      | true =>
        rw [hk] at e
        rw [Bool.and_eq_true] at hk
        obtain ⟨i, hi⟩ := knownT_info hk.1
        have hin := hk.2
        rw [sizeT_eq hi] at e hin
        obtain rfl : mx = none := by cases mx with | none => rfl | some _ => cases hm
        obtain rfl : vmx = none := by cases vmx with | none => rfl | some _ => exact rm.elim
        refine sliceArr_sound H hu hi e r ?_ rl rh
        rintro id off rfl
        unfold inRow at hin
        simp only at hin
        split at hin
        · rename_i b hb
          rw [Bool.and_eq_true] at hin
          have hkr := Kind.isRow_iff.1 hin.1
          have hle : off + n * i.size ≤ b.cells.length := by have := Nat.le_of_ble_eq_true hin.2; rw [lenN_eq] at this; exact this
          obtain ⟨c, o, hm', cells, el', fr, hw, hsz, _⟩ := H.row id b hb hkr
          exact ⟨c, o, cells, el', fr, hm', hw, by omega⟩
        · cases hin
  · cases e

/-- one operation that is no call -/
theorem opA_sound (G : GRel C w F) (H : HRel w F μ h) (ht : TmR w F μ tm a.tmps) {o : Oper} {x : AV} {h' : Heap} (e : opA C tm h o.op = some (x, h')) : OpOk C w F μ (execOp a.eval o) x h' := by
  have R := fun x => rel_operand (μ := μ) G ht x
  unfold execOp
  unfold opA at e
  split at e <;> rename_i ho
  case h_1 => rw [ho]; cases e; exact OpOk.pure H (R _)
  case h_2 => rw [ho]; cases e; exact OpOk.pure H (R _)
  case h_3 =>
    rename_i c p q
    rw [ho]
    obtain ⟨e1, rfl⟩ := keep_some e
    obtain ⟨u, q1, q2⟩ := pick_sound (C := C) e1 (R c) (R p) (R q)
    refine ⟨.value u, w, μ, ?_, .inl ⟨u, rfl, q2⟩, Next.refl w F μ, H⟩
    simp only [Sem.run_bind] at q1 ⊢
    cases hb : (asBool (a.eval c)).run C.P w with
    | ok b w' =>
      rw [hb] at q1
      simp only [Result.andThen_ok, Sem.run_pure] at q1 ⊢
      simp only [Result.ok.injEq] at q1
      obtain ⟨rfl, rfl⟩ := q1
      rfl
    | _ => rw [hb] at q1; cases q1
  case h_4 => rw [ho]; exact alloc_sound H e
  case h_5 => rw [ho]; exact box_sound H (R _) e
  case h_6 =>
    rename_i t parts
    rw [ho]
    refine opKeep (C := C) H e fun y e => build_sound e ?_
    rw [Array.toList_map]
    exact relP_of G ht _
  case h_7 =>
    rename_i t len parts
    rw [ho]
    refine buildSlice_sound H e ?_
    rw [Array.toList_map]
    exact relP_of G ht _
  case h_8 => rw [ho]; exact opKeep (C := C) H e fun y e => load_sound H (R _) e
  case h_9 => rw [ho]; exact store_sound H (R _) (R _) e
  case h_10 =>
    obtain ⟨e1, rfl⟩ := keep_some e
    have := nilCheck_sound (C := C) H e1 (R _) o a.eval _ ho rfl
    unfold execOp at this
    exact this
  case h_11 => rw [ho]; exact opKeep (C := C) H e fun y e => binA_sound _ _ (fun hc => by simpa using hc) e (R _) (R _)
  case h_12 => rw [ho]; exact opKeep (C := C) H e fun y e => unA_sound e (R _)
  case h_13 => rw [ho]; exact convert_sound H (R _) e
  case h_14 => rw [ho]; exact opKeep (C := C) H e fun y e => iface_sound e (R _)
  case h_15 =>
    rename_i f p q
    rw [ho]
    refine opKeep (C := C) (s := Instr.makeFunc f (p.map a.eval) (q.map a.eval)) H e fun y e => ⟨.func f (p.map a.eval) (q.map a.eval), rfl, ?_⟩
    unfold opFunc at e
    split at e
    · cases e
    · rename_i hf
      cases e
      exact mkFunc_sound (fun id he => hf id he) (rel_array G ht p) (rel_array G ht q)
  case h_16 => rw [ho]; exact makeSlice_sound H (R _) (R _) e
  case h_17 => rw [ho]; exact opKeep (C := C) H e fun y e => opSlice_sound H e (R _) (relO_of G ht _) (relO_of G ht _) (relO_of G ht _)
  case h_18 => rw [ho]; exact opKeep (C := C) H e fun y e => fieldAddr_sound e (R _)
  case h_19 => rw [ho]; exact opKeep (C := C) H e fun y e => field_sound e (R _)
  case h_20 => rw [ho]; exact opKeep (C := C) H e fun y e => indexAddr_sound e (R _) (R _)
  case h_21 => rw [ho]; exact opKeep (C := C) H e fun y e => index_sound e (R _) (R _)
  case h_22 => rw [ho]; exact opKeep (C := C) H e fun y e => extract_sound e (R _)
  case h_23 => rw [ho]; exact opKeep (C := C) H e fun y e => assert_sound e (R _)
  case h_24 =>
    rw [ho]
    split at e
    · rename_i hu; exact range_sound H hu (R _) e
    · cases e
  case h_25 => rw [ho]; exact next_sound H (R _) e
  case h_26 => cases e
end
end
end Go.Abs
namespace Go.Abs
noncomputable section
open Go
section
variable {C : Cfg} {w : World} {F : Nat → Prop} {μ : Map} {h : Heap}
theorem relL_one {x : AV} {vs : Array Value} (r : RelL w F [x] μ vs.toList) : ∃ v, vs = #[v] ∧ Rel w F x μ v := by
  unfold RelL at r
  obtain ⟨v, l, e, r1, r2⟩ := r
  unfold RelL at r2
  subst r2
  exact ⟨v, by rw [← Array.toList_inj]; exact e, r1⟩
theorem relL_two {x y : AV} {vs : Array Value} (r : RelL w F [x, y] μ vs.toList) : ∃ v u, vs = #[v, u] ∧ Rel w F x μ v ∧ Rel w F y μ u := by
  unfold RelL at r
  obtain ⟨v, l, e, r1, r2⟩ := r
  unfold RelL at r2
  obtain ⟨u, l2, rfl, r3, r4⟩ := r2
  unfold RelL at r4
  subst r4
  exact ⟨v, u, by rw [← Array.toList_inj]; exact e, r1, r3⟩

/-- a built-in function -/
theorem builtin_sound (H : HRel w F μ h) {b : Builtin} {ts : Array TypeId} {ty : TypeId} {cs : Array Bool} {as : List AV} {vs : Array Value} {x : AV} {h' : Heap} (r : RelL w F as μ vs.toList) (e : builtinA C h b ts as = some (x, h')) : OpOk C w F μ (builtin b ts ty cs vs) x h' := by
  unfold builtinA at e
  cases hs : Nat.beq ts.size 0 with
  | true => rw [hs] at e; cases e
  | false =>
    rw [hs] at e
    have hs : 0 < ts.size := by
      rcases Nat.eq_zero_or_pos ts.size with e0 | e0
      · rw [e0] at hs; cases hs
      · exact e0
    have ht : ts[0]? = some (ts.getD 0 0) := by simp [Array.getD, hs]
    simp only [cond_false] at e
    unfold builtin
    split at e
    · obtain ⟨v, rfl, rv⟩ := relL_one r
      split at e
      · exact opKeep (C := C) H e fun y e => biLen_sound ht rv e
      · exact opKeep (C := C) H e fun y e => biCap_sound ht rv e
      · exact clear_sound H ht rv e
      · exact opKeep (C := C) H e fun y e => biSliceData_sound rv e
      · cases e
    · obtain ⟨v, u, rfl, rv, ru⟩ := relL_two r
      split at e
      · unfold biAppend at e
        cases hn : notMade C ts with
        | false => rw [hn] at e; cases e
        | true =>
          rw [hn] at e
          simp only [Bool.not_true, cond_false] at e
          split at e
          · rename_i el hu
            cases hz : (zeroCells C el).isSome with
            | false => rw [hz] at e; cases e
            | true =>
              rw [hz] at e
              exact append_sound H hn ht hu hz rv ru e
          · cases e
      · exact copy_sound H ht rv ru e
      · exact opKeep (C := C) H e fun y e => biMax_sound rv ru e
      · exact opKeep (C := C) H e fun y e => biMin_sound rv ru e
      · split at e
        · rename_i n hn
          obtain ⟨k, rfl⟩ := natOf_int hn ru
          exact biString_sound H ht rv e
        · cases e
      · cases e
    · cases e
end
end
end Go.Abs
