/- A part of the proofs of the laws of logs: see the last text of this claim. -/
import Derived.Shelf.LaysM
import Derived.Shelf.Strconv.Itoa3
import Derived.Test.YtlehhkleemaloaaGreatDoorProg
import Derived.Lib.AppendIntMem
import Derived.Lib.ItoaLen
import Derived.Test.YtlehhkleemaloaaGreatDoorB2
import Derived.Test.YtlehhkleemaloaaGreatDoorB1
namespace Go.Abs
noncomputable section
open Go Go.Proofs
variable {K : Nat}
theorem awake_c {n : Nat} (hn : 1 ≤ n) (h : Heap) : (fns (Cg K) n).call 8 [] h none = some (.val (.bool true) h none) := by
  obtain ⟨m, rfl⟩ : ∃ m, n = m + 1 := ⟨n - 1, by omega⟩
  kernel_rfl
section
variable {l : List Ev} {c : Int}
end
end
end Go.Abs
namespace Go.Proofs
open Go.Shelf
def Tryz.laysM171_ren : Go.Shelf.Ren := ⟨fun | 171 => 69 | 243 => 90 | 246 => 117 | 283 => 164 | 284 => 165 | 285 => 166 | 286 => 167 | 129 => 233 | 317 => 232 | 318 => 234 | 319 => 235 | 320 => 236 | 337 => 314 | 338 => 315 | n => n, fun | 3 => 3 | 9 => 9 | 2 => 2 | 4 => 4 | 171 => 277 | 0 => 0 | 53 => 270 | 37 => 126 | 5 => 5 | 173 => 280 | 212 => 353 | 51 => 354 | 20 => 20 | 213 => 355 | 46 => 273 | 232 => 457 | 233 => 458 | n => n, fun | 17 => 2 | 18 => 3 | 19 => 4 | n => n⟩
theorem Tryz.laysM171 : Go.Proofs.LaysM.n171 Tryz.prog Tryz.laysM171_ren := {
  mixed := by kernel_rfl
  f129 := Tryz.func233.trans (congrArg some (by kernel_rfl))
  f171 := Tryz.func69.trans (congrArg some (by kernel_rfl))
  f243 := Tryz.func90.trans (congrArg some (by kernel_rfl))
  f246 := Tryz.func117.trans (congrArg some (by kernel_rfl))
  f283 := Tryz.func164.trans (congrArg some (by kernel_rfl))
  f284 := Tryz.func165.trans (congrArg some (by kernel_rfl))
  f285 := Tryz.func166.trans (congrArg some (by kernel_rfl))
  f286 := Tryz.func167.trans (congrArg some (by kernel_rfl))
  f317 := Tryz.func232.trans (congrArg some (by kernel_rfl))
  f318 := Tryz.func234.trans (congrArg some (by kernel_rfl))
  f319 := Tryz.func235.trans (congrArg some (by kernel_rfl))
  f320 := Tryz.func236.trans (congrArg some (by kernel_rfl))
  f337 := Tryz.func314.trans (congrArg some (by kernel_rfl))
  f338 := Tryz.func315.trans (congrArg some (by kernel_rfl))
  t0 := Tryz.underlying0
  a0 := Tryz.isAgg0
  z0 := Tryz.sizeOf0
  v0 := Tryz.zeroValue0
  t2 := Tryz.underlying2
  a2 := Tryz.isAgg2
  z2 := Tryz.sizeOf2
  v2 := Tryz.zeroValue2
  t3 := Tryz.underlying3
  a3 := Tryz.isAgg3
  z3 := Tryz.sizeOf3
  v3 := Tryz.zeroValue3
  t4 := Tryz.underlying4
  a4 := Tryz.isAgg4
  z4 := Tryz.sizeOf4
  v4 := Tryz.zeroValue4
  t5 := Tryz.underlying5
  a5 := Tryz.isAgg5
  z5 := Tryz.sizeOf5
  v5 := Tryz.zeroValue5
  t9 := Tryz.underlying9
  a9 := Tryz.isAgg9
  z9 := Tryz.sizeOf9
  v9 := Tryz.zeroValue9
  t20 := Tryz.underlying20
  a20 := Tryz.isAgg20
  z20 := Tryz.sizeOf20
  v20 := Tryz.zeroValue20
  t37 := Tryz.underlying126
  a37 := Tryz.isAgg126
  z37 := Tryz.sizeOf126
  v37 := Tryz.zeroValue126
  t46 := Tryz.underlying273
  a46 := Tryz.isAgg273
  z46 := Tryz.sizeOf273
  v46 := Tryz.zeroValue273
  t51 := Tryz.underlying354
  a51 := Tryz.isAgg354
  z51 := Tryz.sizeOf354
  v51 := Tryz.zeroValue354
  t53 := Tryz.underlying270
  a53 := Tryz.isAgg270
  z53 := Tryz.sizeOf270
  v53 := Tryz.zeroValue270
  t171 := Tryz.underlying277
  a171 := Tryz.isAgg277
  z171 := Tryz.sizeOf277
  v171 := Tryz.zeroValue277
  t173 := Tryz.underlying280
  a173 := Tryz.isAgg280
  z173 := Tryz.sizeOf280
  v173 := Tryz.zeroValue280
  t212 := Tryz.underlying353
  a212 := Tryz.isAgg353
  z212 := Tryz.sizeOf353
  v212 := Tryz.zeroValue353
  t213 := Tryz.underlying355
  a213 := Tryz.isAgg355
  z213 := Tryz.sizeOf355
  t232 := Tryz.underlying457
  a232 := Tryz.isAgg457
  z232 := Tryz.sizeOf457
  v232 := Tryz.zeroValue457
  t233 := Tryz.underlying458
  a233 := Tryz.isAgg458
  z233 := Tryz.sizeOf458
  v233 := Tryz.zeroValue458
  g17 := by kernel_rfl
  g18 := by kernel_rfl
  g19 := by kernel_rfl
  i0 := by kernel_rfl
  i2 := by kernel_rfl
  i3 := by kernel_rfl
  i4 := by kernel_rfl
  i5 := by kernel_rfl
  i9 := by kernel_rfl
  i20 := by kernel_rfl
  i37 := by kernel_rfl
  i46 := by kernel_rfl
  i51 := by kernel_rfl
  i53 := by kernel_rfl
  i171 := by kernel_rfl
  i173 := by kernel_rfl
  i212 := by kernel_rfl
  i232 := by kernel_rfl
  i233 := by kernel_rfl
  m17 := by kernel_rfl
  m18 := by kernel_rfl
  m19 := by kernel_rfl }
end Go.Proofs
namespace Go.Abs
noncomputable section
open Go Go.Proofs
/-! ## Numbers written: the kit's contract for strconv.Itoa, as the interpreter takes it -/
theorem next_below {w w' : World} {F : Nat → Prop} (B : RowKit.Below w.heap.size w w') : Go.Abs.Next w F Map.none w' F Map.none where
  size := B.size
  os := B.os
  tape := B.tape
  output := B.output
  keep := fun b hb _ => B.block b hb
  map := Map.le_refl _
  new := fun id c o e => by cases e
  ro := fun b h => h
  roNew := fun b h => .inl h
  rows := fun id b o e => by cases e

/-- a call whose answer the kit tells, and that leaves memory as it was -/
theorem callOk_of {C : Cfg} {f : FuncId} {fn : Func} {c : Code} (hf : C.P.funcs[f]? = some fn) (hb : fn.body = some c) (hn : fn.name ≠ "runtime.NumGoroutine") (hd : C.nodef f = true) {args : List AV} (ha : noOwnL (noOwn deep) args = true) {v : AV} (h : Heap)
    (K : ∀ (w : World) (F : Nat → Prop) (vs : Array Value), GRel C w F → (∀ b, F b → b < w.heap.size) → RelL w F args Map.none vs.toList → Calls C.P f vs w fun e w' => ∃ u, e = .returned u ∧ RowKit.Below w.heap.size w w' ∧ Rel w' F v Map.none u) : CallOk C f args h none (.val v h none) := by
  intro w F μ vs G H r
  have r0 := noOwns_sound args vs.toList ha r
  refine .inr ⟨callFunc_body hf hb hn vs, fun kind cs hk hp => ?_⟩
  have hk : kind = .normal := by
    rcases hk with e | ⟨_, e⟩
    · exact e
    · rw [hd] at e; cases e
  subst hk
  obtain ⟨e, w', fr, ⟨u, rfl, B, ru⟩, st, h1, g1, g2, h2, g3⟩ := K w F vs G (fun b hb => (H.sep b hb).1) r0 cs
  have N := next_below (F := F) B
  have H' : HRel w' F Map.none Heap.empty := HRel.empty fun b hb => Nat.lt_of_lt_of_le (H.sep b hb).1 B.size
  have hp0 : PnR w F Map.none (kindFrame .normal) cs none := hp
  exact ⟨.returned u, fr, cs, w', frozenF F Map.none, μ, N.frozen H.dom, H.frozen N H', .inl ⟨rfl, rfl⟩, hp0, st, h1, h2, ⟨g1, g2, g3⟩, u, rfl, Rel.mono _ ⟨fun b hb => ⟨.inl hb, rfl⟩, Map.none_le _, fun _ _ _ e => by cases e⟩ _ ru⟩

theorem inR64_le {n : Int} (h : inR64 n = true) : -9223372036854775808 ≤ n ∧ n ≤ 9223372036854775807 := by
  cases n with
  | ofNat k => unfold inR64 at h; have := Nat.le_of_ble_eq_true h; constructor <;> simp <;> omega
  | negSucc k => unfold inR64 at h; have := Nat.le_of_ble_eq_true h; constructor <;> omega
theorem pow_same : Lib.pow10Tab.map (fun z => Value.int .u64 z) = powV := by kernel_rfl
theorem pow_named : Tryz.prog.globalNamed "internal/strconv.uint64pow10" = some 2 := by kernel_rfl
theorem tab_of {K : Nat} {w : World} {F : Nat → Prop} (G : GRel (Cg K) w F) : Lib.TabIs Tryz.prog w "internal/strconv.uint64pow10" .u64 Lib.pow10Tab := by
  obtain ⟨_, el, fr, e⟩ := G.obj 2 powV (by kernel_rfl)
  unfold Lib.TabIs World.var?
  rw [pow_named]
  simp only [Option.bind_some]
  rw [e, pow_same]
theorem name69 : Tryz.f69.name ≠ "runtime.NumGoroutine" := by decide
theorem itoa_ok (K : Nat) {n : Int} (hr : inR64 n = true) (h : Heap) : CallOk (Cg K) 69 [.int .i64 n] h none (.val (.str (Lib.itoa n)) h none) := by
  refine callOk_of (C := Cg K) (fn := Tryz.f69) (c := bodyOf Tryz.f69) (by kernel_rfl) (by kernel_rfl) name69 (by kernel_rfl) (by kernel_rfl) h fun w F vs G _ r => ?_
  obtain ⟨u, hu, ru⟩ := relL_one r
  unfold Rel at ru
  have hv : vs = #[.int .i64 n] := by rw [hu, ru]
  subst hv
  have hr := inR64_le hr
  refine (Any.strconv_Itoa Tryz.laysM171 n hr.1 hr.2 w (tab_of G)).mono ?_
  rintro e w' ⟨rfl, k, os, rfl⟩
  exact ⟨_, rfl, Lib.below_grow _ _ (Nat.le_refl _) k os, by unfold Rel; rfl⟩
end
end Go.Abs
namespace Go.Abs
noncomputable section
open Go Go.Proofs
variable {K : Nat}
/-! ## Lines of events: numbers and texts -/
theorem itoa_le {n : Int} (h : inR64 n = true) : (Lib.itoa n).length ≤ 21 := Lib.itoa_length_le n (inR64_le h).1 (inR64_le h).2
theorem inR64_of {n : Int} (h1 : -9223372036854775808 ≤ n) (h2 : n ≤ 9223372036854775807) : inR64 n = true := by
  cases n with
  | ofNat k => exact Nat.ble_eq_true_of_le (by have : (k : Int) ≤ 9223372036854775807 := h2; omega)
  | negSucc k => exact Nat.ble_eq_true_of_le (by omega)
theorem inR64_nat {n : Nat} (h : n ≤ 9223372036854775807) : inR64 ((n : Nat) : Int) = true := inR64_of (by omega) (by omega)
theorem wrap_in {n : Int} (h : inR64 n = true) : wrapF .i64 n = n := by unfold wrapF; simp only [h, cond_true]
theorem inR64_num {n : Int} (h : isNum n = true) : inR64 n = true := by
  unfold isNum withinB at h
  rw [Bool.and_eq_true] at h
  have h1 := of_decide_eq_true h.1; have h2 := of_decide_eq_true h.2
  exact inR64_of (by omega) (by omega)
theorem inR64_in {n a b : Int} (h : withinB n a b = true) (ha : -9223372036854775808 ≤ a) (hb : b ≤ 9223372036854775807) : inR64 n = true := by
  unfold withinB at h
  rw [Bool.and_eq_true] at h
  have h1 := of_decide_eq_true h.1; have h2 := of_decide_eq_true h.2
  exact inR64_of (by omega) (by omega)
/-- a number written -/
theorem itoa_c {n : Nat} (hn : 1 ≤ n) {x : Int} (hx : inR64 x = true) (h : Heap) : (fns (Cg K) n).call 69 [.int .i64 x] h none = some (.val (.str (Lib.itoa x)) h none) := by
  obtain ⟨m, rfl⟩ : ∃ m, n = m + 1 := ⟨n - 1, by omega⟩
  have hs : specG 69 [.int .i64 x] = some (.str (Lib.itoa x)) := by
    show (bif inR64 x then some (AV.str (Lib.itoa x)) else none) = _
    rw [hx]; rfl
  show (match specG 69 [.int .i64 x] with | some v => some (Res.val v h none) | none => _) = _
  rw [hs]
/-- strings put together -/
theorem str_add {x y : List UInt8} (b : Bool) (t : TypeId) (h : x.length + y.length ≤ 4611686018427387904) (hp : Heap) : keep hp (binA (Cg K) t b .add (.str x) (.str y)) = some (.str (x ++ y), hp) := by
  show keep hp (bif Nat.ble (Nat.add (lenN x) (lenN y)) 4611686018427387904 then some (AV.str (x ++ y)) else none) = _
  rw [lenN_eq, lenN_eq, show Nat.ble (Nat.add x.length y.length) 4611686018427387904 = true from Nat.ble_eq_true_of_le h]
  rfl

/-! ## Values that are small, and their texts -/
def txt (s : List UInt8) : List UInt8 := Lib.itoa ((lenN s : Nat) : Int) ++ [58] ++ s
def namesText : List (List UInt8) → List UInt8
  | [] => []
  | s :: l => [44] ++ txt s ++ namesText l
def headT (v : Val) : List UInt8 := [118] ++ Lib.itoa v.kind ++ [44] ++ Lib.itoa v.n ++ [44] ++ Lib.itoa v.e ++ [44] ++ txt v.s ++ [44] ++ Lib.itoa ((v.names.length : Nat) : Int)
def midT (v : Val) : List UInt8 := headT v ++ namesText v.names ++ [44] ++ Lib.itoa ((v.items.length : Nat) : Int)
mutual
def valText : Val → List UInt8
  | .mk k n e s nn names ni items => midT (.mk k n e s nn names ni items) ++ itemsText items ++ [59]
def itemsText : List Val → List UInt8
  | [] => []
  | v :: l => valText v ++ itemsText l
end
theorem valText_eq (v : Val) : valText v = midT v ++ itemsText v.items ++ [59] := by cases v; rw [valText]; rfl
def lineT (e : Ev) : List UInt8 := Lib.itoa e.comp ++ [32] ++ Lib.itoa e.kind ++ [32] ++ Lib.itoa e.other ++ [32] ++ txt e.text ++ [32] ++ txt e.name ++ [32] ++ valText e.val
mutual
def Val.cnt : Val → Nat
  | .mk _ _ _ _ _ _ _ items => 1 + cntL items
def cntL : List Val → Nat
  | [] => 0
  | v :: l => v.cnt + cntL l
end
/-- its texts and lists are short, its numbers whole numbers -/
def smHead (v : Val) : Prop := isNum v.kind = true ∧ isNum v.n = true ∧ isNum v.e = true ∧ v.s.length ≤ 200 ∧ v.names.length ≤ 40 ∧ ∀ x ∈ v.names, x.length ≤ 200
mutual
def Val.sm : Val → Prop
  | .mk k n e s nn names ni items => smHead (.mk k n e s nn names ni items) ∧ smL items
def smL : List Val → Prop
  | [] => True
  | v :: l => v.sm ∧ smL l
end
theorem sm_head {v : Val} (h : v.sm) : smHead v := by cases v; rw [Val.sm] at h; exact h.1
theorem smL_mem : ∀ {l : List Val}, smL l → ∀ {i : Nat}, i < l.length → (l.getD i default).sm
  | [], _, i, hi => by cases hi
  | v :: l, h, 0, _ => by rw [smL] at h; exact h.1
  | v :: l, h, i + 1, hi => by rw [smL] at h; exact smL_mem h.2 (by simpa using hi)
theorem sm_item {v : Val} (h : v.sm) {i : Nat} (hi : i < v.items.length) : (v.items.getD i default).sm := by
  cases v; rw [Val.sm] at h; exact smL_mem h.2 hi
theorem cntL_take : ∀ (l : List Val) (i : Nat), cntL (l.take i) ≤ cntL l
  | [], i => by simp [cntL]
  | v :: l, 0 => by simp [cntL]
  | v :: l, i + 1 => by rw [List.take_succ_cons, cntL, cntL]; have := cntL_take l i; omega
theorem cntL_at : ∀ (l : List Val) (i : Nat), i < l.length → cntL (l.take i) + (l.getD i default).cnt ≤ cntL l
  | [], i, hi => by cases hi
  | v :: l, 0, _ => by show cntL [] + v.cnt ≤ _; rw [cntL, cntL]; omega
  | v :: l, i + 1, hi => by
    have := cntL_at l i (by simpa using hi)
    show cntL (v :: l.take i) + (l.getD i default).cnt ≤ _
    rw [cntL, cntL]; omega
theorem cnt_eq (v : Val) : v.cnt = 1 + cntL v.items := by cases v; rw [Val.cnt]; rfl
theorem cnt_pos (v : Val) : 1 ≤ v.cnt := by rw [cnt_eq]; omega
theorem txt_len {s : List UInt8} (h : s.length ≤ 9223372036854775807) : (txt s).length ≤ 22 + s.length := by
  unfold txt
  rw [lenN_eq]
  have := itoa_le (inR64_nat h)
  simp only [List.length_append, List.length_cons, List.length_nil]
  omega
theorem namesText_len : ∀ {l : List (List UInt8)}, (∀ x ∈ l, x.length ≤ 200) → (namesText l).length ≤ 223 * l.length
  | [], _ => by simp [namesText]
  | s :: l, h => by
    have h1 := namesText_len (l := l) fun x hx => h x (List.mem_cons_of_mem _ hx)
    have h2 := h s (List.mem_cons_self ..)
    have h3 := txt_len (s := s) (by omega)
    rw [namesText]
    simp only [List.length_append, List.length_cons, List.length_nil]
    omega
theorem names_take_len {v : Val} (h : v.sm) (i : Nat) : (namesText (v.names.take i)).length ≤ 8920 := by
  obtain ⟨_, _, _, _, h5, h6⟩ := sm_head h
  have := namesText_len (l := v.names.take i) fun x hx => h6 x (List.mem_of_mem_take hx)
  have h2 : (v.names.take i).length ≤ 40 := by rw [List.length_take]; omega
  omega
theorem headT_len {v : Val} (h : v.sm) : (headT v).length ≤ 320 := by
  obtain ⟨h1, h2, h3, h4, h5, h6⟩ := sm_head h
  have a1 := itoa_le (inR64_num h1); have a2 := itoa_le (inR64_num h2); have a3 := itoa_le (inR64_num h3)
  have a4 := txt_len (s := v.s) (by omega)
  have a5 := itoa_le (inR64_nat (n := v.names.length) (by omega))
  unfold headT
  simp only [List.length_append, List.length_cons, List.length_nil]
  omega
theorem midT_len {v : Val} (h : v.sm) (hv : v.ok) : (midT v).length ≤ 9270 := by
  have h1 := headT_len h
  have h2 := names_take_len h v.names.length
  rw [List.take_length] at h2
  have h3 := ok_items hv
  have h4 := itoa_le (inR64_nat (n := v.items.length) (by unfold big at h3; omega))
  unfold midT
  simp only [List.length_append, List.length_cons, List.length_nil]
  omega
mutual
theorem valText_len : ∀ {v : Val}, v.sm → v.ok → (valText v).length ≤ 10000 * v.cnt
  | .mk k n e s nn names ni items, h, hv => by
    have h1 := midT_len h hv
    have h2 : (itemsText items).length ≤ 10000 * cntL items := by
      rw [Val.sm] at h; rw [Val.ok] at hv
      exact itemsText_len h.2 hv.2.2
    rw [valText, Val.cnt]
    simp only [List.length_append, List.length_cons, List.length_nil]
    omega
theorem itemsText_len : ∀ {l : List Val}, smL l → okL l → (itemsText l).length ≤ 10000 * cntL l
  | [], _, _ => by rw [itemsText]; simp
  | v :: l, h, hv => by
    rw [smL] at h; rw [okL] at hv
    have h1 := valText_len h.1 hv.1
    have h2 := itemsText_len h.2 hv.2
    rw [itemsText, cntL, List.length_append]
    omega
end
theorem namesText_app : ∀ (l k : List (List UInt8)), namesText (l ++ k) = namesText l ++ namesText k
  | [], k => rfl
  | s :: l, k => by rw [List.cons_append, namesText, namesText, namesText_app l k]; simp only [List.append_assoc]
theorem itemsText_app : ∀ (l k : List Val), itemsText (l ++ k) = itemsText l ++ itemsText k
  | [], k => by rw [itemsText]; rfl
  | v :: l, k => by rw [List.cons_append, itemsText, itemsText, itemsText_app l k, List.append_assoc]
theorem take_at {α : Type} [Inhabited α] (l : List α) (i : Nat) (d : α) (h : i < l.length) : l.take (i + 1) = l.take i ++ [l.getD i d] := by
  rw [List.take_add_one, List.getElem?_eq_getElem h, Option.toList_some, List.getD_eq_getElem?_getD, List.getElem?_eq_getElem h, Option.getD_some]
theorem namesText_succ (l : List (List UInt8)) (i : Nat) (h : i < l.length) : namesText (l.take (i + 1)) = namesText (l.take i) ++ ([44] ++ txt (l.getD i [])) := by
  rw [take_at l i [] h, namesText_app]; simp [namesText]
theorem itemsText_succ (l : List Val) (i : Nat) (h : i < l.length) : itemsText (l.take (i + 1)) = itemsText (l.take i) ++ valText (l.getD i default) := by
  rw [take_at l i default h, itemsText_app, itemsText, itemsText, List.append_nil]
theorem itemsText_take_len {v : Val} (h : v.sm) (hv : v.ok) (i : Nat) : (itemsText (v.items.take i)).length ≤ 10000 * cntL (v.items.take i) := by
  refine itemsText_len ?_ ?_
  · cases v with
    | mk k n e s nn names ni items =>
      rw [Val.sm] at h
      have : ∀ (l : List Val) (i : Nat), smL l → smL (l.take i) := by
        intro l
        induction l with
        | nil => intro i _; simp [smL]
        | cons a l ih => intro i h; cases i with
          | zero => simp [smL]
          | succ i => rw [smL] at h; rw [List.take_succ_cons, smL]; exact ⟨h.1, ih i h.2⟩
      exact this items i h.2
  · cases v with
    | mk k n e s nn names ni items =>
      rw [Val.ok] at hv
      have : ∀ (l : List Val) (i : Nat), okL l → okL (l.take i) := by
        intro l
        induction l with
        | nil => intro i _; simp [okL]
        | cons a l ih => intro i h; cases i with
          | zero => simp [okL]
          | succ i => rw [okL] at h; rw [List.take_succ_cons, okL]; exact ⟨h.1, ih i h.2⟩
      exact this items i hv.2.2

/-! ## An event that has no error is small -/
mutual
theorem sizer_cnt : ∀ (v : Val) (lv z : Int), 0 ≤ lv → lv ≤ 8 → 0 ≤ z → z ≤ 120 → (sizerV v lv (z, false)).2 = false → (sizerV v lv (z, false)).1 = z - ((v.cnt : Nat) : Int) ∧ 0 ≤ (sizerV v lv (z, false)).1
  | .mk k n e s nn names ni items, lv, z, h1, h2, h3, h4, h => by
    rw [sizerV_eq] at h ⊢
    simp only at h ⊢
    have hi : (Val.mk k n e s nn names ni items).items = items := rfl
    rw [hi] at h ⊢
    have ez : wrapF .i64 (z - 1) = z - 1 := wrap_near _ (by omega) (by omega)
    have el : wrapF .i64 (lv - 1) = lv - 1 := wrap_near _ (by omega) (by omega)
    cases hm : meetO z false lv with
    | true => rw [hm] at h; cases h
    | false =>
      rw [hm] at h
      simp only [cond_false, ez, el] at h ⊢
      unfold meetO at hm
      rw [ez, Bool.false_or, Bool.or_eq_false_iff] at hm
      have m1 := of_decide_eq_false hm.1; have m2 := of_decide_eq_false hm.2
      have := sizerL_cnt items (lv - 1) (z - 1) (by omega) (by omega) (by omega) (by omega) h
      rw [Val.cnt]
      refine ⟨?_, this.2⟩
      rw [this.1]; omega
theorem sizerL_cnt : ∀ (l : List Val) (lv z : Int), 0 ≤ lv → lv ≤ 8 → 0 ≤ z → z ≤ 120 → (sizerL l lv (z, false)).2 = false → (sizerL l lv (z, false)).1 = z - ((cntL l : Nat) : Int) ∧ 0 ≤ (sizerL l lv (z, false)).1
  | [], lv, z, h1, h2, h3, h4, h => by rw [sizerL, cntL]; exact ⟨by simp, h3⟩
  | v :: l, lv, z, h1, h2, h3, h4, h => by
    rw [sizerL] at h ⊢
    simp only [cond_false] at h ⊢
    cases hb : (sizerV v lv (z, false)).2 with
    | true =>
      have : sizerV v lv (z, false) = ((sizerV v lv (z, false)).1, true) := Prod.ext rfl hb
      rw [this, sizerL_stop _ _ rfl] at h
      cases h
    | false =>
      have hv := sizer_cnt v lv z h1 h2 h3 h4 hb
      have e : sizerV v lv (z, false) = ((sizerV v lv (z, false)).1, false) := Prod.ext rfl hb
      rw [e] at h ⊢
      have hc := cnt_pos v
      have := sizerL_cnt l lv _ h1 h2 hv.2 (by rw [hv.1]; omega) h
      rw [cntL]
      refine ⟨?_, this.2⟩
      rw [this.1, hv.1]; omega
end
theorem nums_of (v : Val) : inRangeB v = (isNum v.kind && (isNum v.n && (isNum v.e && inRangeL v.items))) := by cases v; rw [inRangeB]; rfl
mutual
theorem sm_of : ∀ (v : Val), valueErrI v = 0 → inRangeB v = true → v.sm
  | .mk k n e s nn names ni items, h1, h2 => by
    rw [valueErrI_long] at h1
    rw [nums_of] at h2
    simp only [Bool.and_eq_true] at h2
    rw [Val.sm]
    cases ha : longB (Val.mk k n e s nn names ni items).s || bigN (Val.mk k n e s nn names ni items) with
    | true => rw [ha] at h1; cases h1
    | false =>
    rw [ha] at h1
    simp only [cond_false] at h1
    rw [Bool.or_eq_false_iff] at ha
    cases hb : (Val.mk k n e s nn names ni items).names.any longB with
    | true => rw [hb] at h1; cases h1
    | false =>
    rw [hb] at h1
    simp only [cond_false] at h1
    refine ⟨⟨h2.1, h2.2.1, h2.2.2.1, ?_, ?_, fun x hx => ?_⟩, smL_of items h1 h2.2.2.2⟩
    · have := ha.1; unfold longB at this; have := of_decide_eq_false this; rw [lenN_eq] at this; omega
    · have := ha.2; unfold bigN at this; have := of_decide_eq_false this; omega
    · have := List.any_eq_false.1 hb x hx
      unfold longB at this
      rw [lenN_eq] at this
      simp only [decide_eq_true_eq] at this
      omega
theorem smL_of : ∀ (l : List Val), valueErrL l = 0 → inRangeL l = true → smL l
  | [], _, _ => by rw [smL]; trivial
  | v :: l, h1, h2 => by
    rw [valueErrL] at h1
    rw [inRangeL, Bool.and_eq_true] at h2
    cases hv : valueErrI v != 0 with
    | true => rw [hv] at h1; have h1 : valueErrI v = 0 := h1; rw [h1] at hv; cases hv
    | false =>
      rw [hv] at h1
      rw [smL]
      exact ⟨sm_of v (by simpa using hv) h2.1, smL_of l h1 h2.2⟩
end
/-- an event that is right -/
structure Ev.sm (e : Ev) : Prop where
  comp : inR64 e.comp = true
  kind : inR64 e.kind = true
  other : inR64 e.other = true
  text : e.text.length ≤ 200
  name : e.name.length ≤ 200
  val : e.val.sm
  cnt : e.val.cnt ≤ 120
theorem ev_sm {e : Ev} (h : evErr e = 0) : e.sm := by
  unfold evErr at h
  cases h1 : !(withinB e.comp (-1) 5) || !(isNum e.other) with
  | true => rw [h1] at h; cases h
  | false =>
  rw [h1] at h
  cases h2 : !(withinB e.kind 0 10) with
  | true => rw [h2] at h; cases h
  | false =>
  rw [h2] at h
  simp only [cond_false] at h
  rw [Bool.or_eq_false_iff] at h1
  cases h3 : decide (((lenN e.text : Nat) : Int) > 200) with
  | true => rw [h3] at h; cases h
  | false =>
  rw [h3] at h
  cases h4 : decide (((lenN e.name : Nat) : Int) > 200) with
  | true => rw [h4] at h; cases h
  | false =>
  rw [h4] at h
  cases h5 : smallB e.val 120 with
  | false => rw [h5] at h; cases h
  | true =>
  rw [h5] at h
  simp only [Bool.or_false, Bool.not_true, cond_false] at h
  cases h6 : valueErrI e.val != 0 with
  | true => rw [h6] at h; have h : valueErrI e.val = 0 := h; rw [h] at h6; cases h6
  | false =>
  rw [h6] at h
  simp only [cond_false] at h
  cases h7 : inRangeB e.val with
  | false => rw [h7] at h; cases h
  | true =>
  have d3 := of_decide_eq_false h3; have d4 := of_decide_eq_false h4
  rw [lenN_eq] at d3 d4
  have hs : (sizerV e.val 8 (120, false)).2 = false := by unfold smallB at h5; simpa using h5
  have hc := sizer_cnt e.val 8 120 (by omega) (by omega) (by omega) (by omega) hs
  exact ⟨inR64_in (by simpa using h1.1) (by omega) (by omega), inR64_in (by simpa using h2) (by omega) (by omega), inR64_num (by simpa using h1.2), by omega, by omega, sm_of _ (by simpa using h6) h7, by have := hc.1; have := hc.2; omega⟩
end
end Go.Abs
namespace Go.Abs
noncomputable section
open Go Go.Proofs
/-! ## Blocks that are the same before and behind a call that changes nothing -/
section
variable {C : Cfg} {F : Fns} {Q : Out → Prop} {ops : Array Oper} {l : List Oper} {d : Dr} {j : Nat} {pl : List Nat}
end
/-! ## Values are the same as themselves -/
theorem beqL_refl {f : AV → AV → Bool} : ∀ {cs : List AV}, (∀ c ∈ cs, f c c = true) → beqL f cs cs = true
  | [], _ => rfl
  | c :: cs, h => by
    show (f c c && beqL f cs cs) = true
    rw [h c (List.mem_cons_self ..), beqL_refl fun x hx => h x (List.mem_cons_of_mem _ hx)]; rfl
theorem beq_int (n : Nat) (k : IntKind) (x : Int) : beqAV (n + 1) (.int k x) (.int k x) = true := beqAV_flat n _ rfl
theorem beq_str (n : Nat) (s : List UInt8) : beqAV (n + 1) (.str s) (.str s) = true := beqAV_flat n _ rfl
end
end Go.Abs
