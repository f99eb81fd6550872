/- A part of the proofs of the laws of logs: see the last text of this claim. -/
import Derived.ChangeArms
import Derived.ChangeSlices
import Derived.Test.YtlehhkleemaloaaGreatDoorB3
import Derived.Test.YtlehhkleemaloaaGreatDoorB5
namespace Go.Abs
noncomputable section
open Go Go.Proofs
/-! ## What came in, as abstract values -/
section
variable {w : World} {F : Nat → Prop}
theorem relC_cons (a : AV) (x : List AV) (b o : Nat) : RelC w F (a :: x) b o ↔ (∃ v, w.cell? ⟨b, o, none⟩ = some v ∧ one v = true ∧ Rel w F a Map.none v) ∧ RelC w F x b (o + 1) := by rw [RelC]
theorem relC_append : ∀ (x y : List AV) (b o : Nat), RelC w F (x ++ y) b o ↔ RelC w F x b o ∧ RelC w F y b (o + x.length)
  | [], y, b, o => by
    show RelC w F y b o ↔ RelC w F [] b o ∧ RelC w F y b (o + 0)
    simp [RelC]
  | a :: x, y, b, o => by
    show RelC w F (a :: (x ++ y)) b o ↔ _
    rw [relC_cons, relC_cons, relC_append x y b (o + 1), List.length_cons, show o + 1 + x.length = o + (x.length + 1) by omega, and_assoc]
theorem relC_flat {α : Type} (f : α → List AV) (z : Nat) (hf : ∀ x, (f x).length = z) (b o : Nat) : ∀ (l : List α) (k : Nat), (∀ i, (hi : i < l.length) → RelC w F (f l[i]) b (o + (k + i) * z)) → RelC w F (l.flatMap f) b (o + k * z)
  | [], _, _ => by show RelC w F [] b _; unfold RelC; trivial
  | a :: l, k, h => by
    rw [List.flatMap_cons, relC_append]
    refine ⟨by have := h 0 (by simp); simp only [List.getElem_cons_zero, Nat.add_zero] at this; exact this, ?_⟩
    rw [hf, show o + k * z + z = o + (k + 1) * z by rw [Nat.succ_mul]; omega]
    refine relC_flat f z hf b o l (k + 1) fun i hi => ?_
    have := h (i + 1) (by simpa using hi)
    rw [show k + 1 + i = k + (i + 1) by omega]
    simpa using this
theorem relC_ofL : ∀ (ls : List AV) (vs : List Value) (b o : Nat), RelL w F ls Map.none vs → (∀ i x, vs[i]? = some x → w.cell? ⟨b, o + i, none⟩ = some x ∧ one x = true) → RelC w F ls b o
  | [], _, _, _, _, _ => by unfold RelC; trivial
  | a :: ls, vs, b, o, h, hc => by
    unfold RelL at h
    obtain ⟨v, vs, rfl, h1, h2⟩ := h
    unfold RelC
    have h0 := hc 0 v rfl
    refine ⟨⟨v, h0.1, h0.2, h1⟩, relC_ofL ls vs b (o + 1) h2 fun i x hx => ?_⟩
    have := hc (i + 1) x (by simpa using hx)
    rw [show o + 1 + i = o + (i + 1) by omega]
    exact this
theorem exists_list {α : Type} (P : Nat → α → Prop) : ∀ n, (∀ i, i < n → ∃ x, P i x) → ∃ l : List α, l.length = n ∧ ∀ i, (hi : i < l.length) → P i l[i]
  | 0, _ => ⟨[], rfl, fun i hi => by cases hi⟩
  | n + 1, h => by
    obtain ⟨l, hl, hp⟩ := exists_list P n fun i hi => h i (by omega)
    obtain ⟨x, hx⟩ := h n (by omega)
    refine ⟨l ++ [x], by simp [hl], fun i hi => ?_⟩
    by_cases hc : i < l.length
    · rw [List.getElem_append_left hc]; exact hp i hc
    · have : i = l.length := by simp at hi; omega
      subst this
      rw [List.getElem_append_right (by omega)]
      simpa [hl] using hx
theorem cell_spot {a : Addr} {x : Value} (h : w.cell? a = some x) : a = ⟨a.block, a.off, none⟩ ∧ a.block < w.heap.size := by
  unfold World.cell? at h
  split at h
  · rename_i c _ _ hb
    cases hs : a.spot with
    | some s => rw [hs] at h; cases h
    | none =>
      refine ⟨by cases a; simp at hs; subst hs; rfl, ?_⟩
      exact (Array.getElem?_eq_some_iff.1 hb).1
  · cases h
theorem add_eq {a : Addr} (h : a = ⟨a.block, a.off, none⟩) (n : Nat) : a.add n = ⟨a.block, a.off + n, none⟩ := by
  unfold Addr.add
  by_cases hn : n = 0
  · subst hn; rw [if_pos rfl]; exact h
  · rw [if_neg hn]
end
section
variable {H : Type} {enc : TypeId × Value → H} {P : Program} {w : World} {held : Bool} {fuel t e z : Nat} {x : DataW H × List MemPlace} {c : Value}
abbrev allF (w : World) : Nat → Prop := fun b => b < w.heap.size
abbrev spareT : Nat → Bool := fun _ => true
theorem maxLen_eq : maxLen = 9223372036854775807 := rfl
theorem trod_sl {α : Type} (f : α → List AV) (PP : α → Prop) (hf : ∀ x, (f x).length = z) (hz0 : 0 < z) (hz : P.cellsOf e = z) (ht : P.underlying t = some (.slice e)) (hb0 : ∃ b0, b0 < w.heap.size)
    (he : ∀ m, m < fuel → ∀ cs y, DataW.trod enc P w 0 spareT held m e cs = some y → ∃ a : α, PP a ∧ RelL w (allF w) (f a) Map.none cs ∧ ∀ u ∈ cs, one u = true)
    (h : DataW.trod enc P w 0 spareT held fuel t [c] = some x) :
    ∃ (nn : Bool) (l : List α), l.length < big ∧ (∀ a ∈ l, PP a) ∧ Rel w (allF w) (sliceA nn (l.flatMap f) l.length) Map.none c ∧ one c = true := by
  rcases DataW.trod_slice ht h with ⟨h0, _⟩ | ⟨a, len, cap, elems, rest, n, rfl, hc, _, _, hl, hm, hlen, hel, hsp, _⟩
  · simp only [List.cons.injEq, and_true] at h0
    subst h0
    refine ⟨true, [], by unfold big; simp, fun a ha => (by cases ha), ?_, rfl⟩
    show Rel w (allF w) .nils Map.none _
    unfold Rel; rfl
  · simp only [List.cons.injEq, and_true] at hc
    subst hc
    rw [hz] at hel hsp
    have each : ∀ i, i < len → ∃ b : α, ∃ cs, w.cells? 0 (a.add (i * z)) z = some cs ∧ PP b ∧ RelL w (allF w) (f b) Map.none cs ∧ ∀ u ∈ cs, one u = true := by
      intro i hi
      have h1 := hel i hi
      rw [List.getElem?_eq_getElem (by omega), Option.bind_eq_some_iff] at h1
      obtain ⟨cs, h2, h3⟩ := h1
      obtain ⟨b, h4, h5, h6⟩ := he n (Nat.lt_succ_self n) cs _ h3
      exact ⟨b, cs, h2, h4, h5, h6⟩
    obtain ⟨l, hll, hl2⟩ := exists_list (fun i (b : α) => ∃ cs, w.cells? 0 (a.add (i * z)) z = some cs ∧ PP b ∧ RelL w (allF w) (f b) Map.none cs ∧ ∀ u ∈ cs, one u = true) len each
    have hspot : ∀ i cs, w.cells? 0 (a.add (i * z)) z = some cs → ∃ b o, a.add (i * z) = ⟨b, o, none⟩ ∧ b < w.heap.size := by
      intro i cs hcs
      have h1 := (World.cells?_some hcs).2.2 0 hz0
      have h2 := (World.cells?_some hcs).2.1
      rw [List.getElem?_eq_getElem (by omega)] at h1
      have h3 := cell_spot h1
      have h0 : (a.add (i * z)).add 0 = a.add (i * z) := rfl
      rw [h0] at h3
      exact ⟨_, _, h3.1, h3.2⟩
    have haddr : cap ≠ 0 → a = ⟨a.block, a.off, none⟩ ∧ a.block < w.heap.size := by
      intro hcap
      have key : ∃ cs, w.cells? 0 (a.add (0 * z)) z = some cs := by
        by_cases h0 : 0 < len
        · obtain ⟨cs, h1, _⟩ := hl2 0 (by omega)
          exact ⟨cs, h1⟩
        · obtain ⟨hr1, hr2⟩ := hsp rfl
          have h1 := hr2 0 (by omega)
          rw [List.getElem?_eq_getElem (by omega), Option.bind_eq_some_iff] at h1
          obtain ⟨cs, h2, _⟩ := h1
          have hl0 : len + 0 = 0 := by omega
          rw [hl0] at h2
          exact ⟨cs, h2⟩
      obtain ⟨cs, h1⟩ := key
      obtain ⟨b, o, h2, h3⟩ := hspot 0 cs h1
      have h0 : a.add (0 * z) = a := by rw [Nat.zero_mul]; rfl
      rw [h0] at h2
      subst h2
      exact ⟨rfl, h3⟩
    refine ⟨false, l, by rw [hll]; unfold big; have := maxLen_eq; omega, fun b hb => ?_, ?_, rfl⟩
    · obtain ⟨i, hi, rfl⟩ := List.getElem_of_mem hb
      obtain ⟨_, _, h1, _⟩ := hl2 i hi
      exact h1
    · by_cases h0 : len = 0
      · have hnil : l = [] := List.eq_nil_of_length_eq_zero (by omega)
        subst hnil
        show Rel w (allF w) (.slR [] 0 0 0 false) Map.none _
        unfold Rel
        subst h0
        by_cases hcap : cap = 0
        · obtain ⟨b0, hb0⟩ := hb0
          exact ⟨b0, 0, a, cap, hb0, rfl, Nat.le_refl _, Nat.zero_le _, fun h => (by cases h), fun h => absurd hcap h, by unfold RelC; trivial⟩
        · obtain ⟨h1, h2⟩ := haddr hcap
          exact ⟨a.block, a.off, a, cap, h2, rfl, Nat.le_refl _, Nat.zero_le _, fun h => (by cases h), fun _ => h1, by unfold RelC; trivial⟩
      · obtain ⟨h1, h2⟩ := haddr (by omega)
        obtain ⟨k, hk⟩ : ∃ k, l.length = k + 1 := ⟨l.length - 1, by omega⟩
        rw [hk]
        show Rel w (allF w) (.slR (l.flatMap f) 0 (k + 1) (k + 1) false) Map.none _
        unfold Rel
        refine ⟨a.block, a.off, a, cap, h2, by rw [← hk, hll], Nat.le_refl _, by omega, fun h => (by cases h), fun _ => h1, ?_⟩
        have := relC_flat (w := w) (F := allF w) f z hf a.block a.off l 0 (fun i hi => by
          obtain ⟨cs, h3, _, h5, h6⟩ := hl2 i hi
          refine relC_ofL _ cs _ _ h5 fun j y hy => ?_
          have hj : j < z := by rw [← (World.cells?_some h3).2.1]; exact (List.getElem?_eq_some_iff.1 hy).1
          have h7 := (World.cells?_some h3).2.2 j hj
          rw [hy, add_eq h1, add_eq rfl] at h7
          exact ⟨by rw [Nat.zero_add]; exact h7, h6 y (List.mem_of_getElem? hy)⟩)
        rw [Nat.zero_mul, Nat.add_zero] at this
        exact this
theorem part_of_struct {fs : Array Field} {cs : List Value} {ft : Field} {i ty off sz : Nat} (ht : P.underlying t = some (.struct fs)) (h : DataW.trod enc P w 0 spareT held (fuel + 1) t cs = some x) (hf : fs[i]? = some ft) (h1 : ft.type = ty) (h2 : ft.offset = off) (h3 : P.cellsOf ty = sz) :
    ∃ y, DataW.trod enc P w 0 spareT held fuel ty ((cs.drop off).take sz) = some y := by
  obtain ⟨xs, n, hn, _, _, hl, hp⟩ := DataW.trod_struct ht h
  have : n = fuel := by omega
  subst this
  have := hp i ft hf
  rw [h1, h2, h3] at this
  have hi : i < xs.length := by rw [hl]; exact (Array.getElem?_eq_some_iff.1 hf).1
  exact ⟨xs[i], by rw [this, List.getElem?_eq_getElem hi]⟩
theorem trod_str (ht : P.underlying t = some .string) (h : DataW.trod enc P w 0 spareT held fuel t [c] = some x) : ∃ s : List UInt8, c = .string ⟨⟨s⟩⟩ := by
  cases fuel with
  | zero => simp [DataW.trod] at h
  | succ n =>
    unfold DataW.trod at h
    rw [ht] at h
    split at h <;> simp_all
    rename_i s _
    exact ⟨s.data.toList, by cases s; simp⟩
theorem trod_i64 (ht : P.underlying t = some (.int .i64)) (h : DataW.trod enc P w 0 spareT held fuel t [c] = some x) : ∃ m : Int, c = .int .i64 m := by
  obtain ⟨m, hm, _⟩ := DataW.trod_int ht h
  exact ⟨m, by simpa using hm⟩
end
end
end Go.Abs
namespace Go.Abs
noncomputable section
open Go Go.Proofs
/-! ## Values and events that came in -/
noncomputable def fsOf (t : Nat) : Array Field := match Tryz.prog.underlying t with | some (.struct fs) => fs | _ => #[]
theorem st35 : Tryz.prog.underlying 35 = some (.struct (fsOf 35)) := by kernel_rfl
theorem st37 : Tryz.prog.underlying 37 = some (.struct (fsOf 37)) := by kernel_rfl
noncomputable def fld (t i : Nat) : Field := (fsOf t).getD i default
theorem dep_le {k : Nat} : ∀ l : List Val, (∀ a ∈ l, a.dep ≤ k) → depL l ≤ k
  | [], _ => by rw [depL]; exact Nat.zero_le _
  | a :: l, h => by rw [depL]; exact Nat.max_le.2 ⟨h a (List.mem_cons_self ..), dep_le l fun x hx => h x (List.mem_cons_of_mem _ hx)⟩
theorem okL_all : ∀ l : List Val, (∀ a ∈ l, a.ok) → okL l
  | [], _ => by rw [okL]; trivial
  | a :: l, h => by rw [okL]; exact ⟨h a (List.mem_cons_self ..), okL_all l fun x hx => h x (List.mem_cons_of_mem _ hx)⟩
section
variable {H : Type} {enc : TypeId × Value → H} {w : World} {held : Bool} {x : DataW H × List MemPlace}
theorem rel1 {a : AV} {v : Value} {ls : List AV} {vs : List Value} (h : Rel w (allF w) a Map.none v) (r : RelL w (allF w) ls Map.none vs) : RelL w (allF w) (a :: ls) Map.none (v :: vs) := by
  unfold RelL; exact ⟨v, vs, rfl, h, r⟩
theorem rel0 : RelL w (allF w) [] Map.none [] := by unfold RelL; rfl
theorem rel_i64 (m : Int) : Rel w (allF w) (.int .i64 m) Map.none (.int .i64 m) := by unfold Rel; rfl
theorem rel_s (s : List UInt8) : Rel w (allF w) (.str s) Map.none (.string ⟨⟨s⟩⟩) := by unfold Rel; rfl
theorem relL_append {a b : List AV} {u v : List Value} : RelL w (allF w) a Map.none u → RelL w (allF w) b Map.none v → RelL w (allF w) (a ++ b) Map.none (u ++ v) := by
  induction a generalizing u with
  | nil => intro h k; unfold RelL at h; subst h; exact k
  | cons a l ih =>
    intro h k
    unfold RelL at h
    obtain ⟨x, xs, rfl, h1, h2⟩ := h
    exact rel1 h1 (ih h2 k)
theorem names_flat (l : List (List UInt8)) : (l.flatMap fun s => [AV.str s]) = l.map .str := by
  induction l with
  | nil => rfl
  | cons a l ih => simp [ih]

set_option maxRecDepth 20000 in
theorem trod_val (hb0 : ∃ b0, b0 < w.heap.size) : ∀ (n : Nat) (cs : List Value) (x : DataW H × List MemPlace), DataW.trod enc Tryz.prog w 0 spareT held n 35 cs = some x →
    ∃ v : Val, v.ok ∧ v.dep ≤ n ∧ RelL w (allF w) v.cells Map.none cs ∧ ∀ u ∈ cs, one u = true := by
  intro n
  induction n using Nat.strongRecOn with
  | _ n ih =>
  intro cs x h
  cases n with
  | zero => simp [DataW.trod] at h
  | succ n =>
  obtain ⟨xs, _, _, _, hl, _⟩ := DataW.trod_struct st35 h
  rw [show Tryz.prog.cellsOf 35 = 6 by kernel_rfl] at hl
  match cs, hl with
  | [c0, c1, c2, c3, c4, c5], _ =>
  obtain ⟨y0, h0⟩ := part_of_struct (i := 0) (ft := fld 35 0) (ty := 3) (off := 0) (sz := 1) st35 h (by kernel_rfl) (by kernel_rfl) (by kernel_rfl) (by kernel_rfl)
  obtain ⟨y1, h1⟩ := part_of_struct (i := 1) (ft := fld 35 1) (ty := 3) (off := 1) (sz := 1) st35 h (by kernel_rfl) (by kernel_rfl) (by kernel_rfl) (by kernel_rfl)
  obtain ⟨y2, h2⟩ := part_of_struct (i := 2) (ft := fld 35 2) (ty := 3) (off := 2) (sz := 1) st35 h (by kernel_rfl) (by kernel_rfl) (by kernel_rfl) (by kernel_rfl)
  obtain ⟨y3, h3⟩ := part_of_struct (i := 3) (ft := fld 35 3) (ty := 9) (off := 3) (sz := 1) st35 h (by kernel_rfl) (by kernel_rfl) (by kernel_rfl) (by kernel_rfl)
  obtain ⟨y4, h4⟩ := part_of_struct (i := 4) (ft := fld 35 4) (ty := 29) (off := 4) (sz := 1) st35 h (by kernel_rfl) (by kernel_rfl) (by kernel_rfl) (by kernel_rfl)
  obtain ⟨y5, h5⟩ := part_of_struct (i := 5) (ft := fld 35 5) (ty := 33) (off := 5) (sz := 1) st35 h (by kernel_rfl) (by kernel_rfl) (by kernel_rfl) (by kernel_rfl)
  obtain ⟨m0, rfl⟩ := trod_i64 (c := c0) (by kernel_rfl) h0
  obtain ⟨m1, rfl⟩ := trod_i64 (c := c1) (by kernel_rfl) h1
  obtain ⟨m2, rfl⟩ := trod_i64 (c := c2) (by kernel_rfl) h2
  obtain ⟨s, rfl⟩ := trod_str (c := c3) (by kernel_rfl) h3
  obtain ⟨nn, names, g1, _, g3, g4⟩ := trod_sl (c := c4) (z := 1) (e := 9) (fun s : List UInt8 => [AV.str s]) (fun _ => True) (fun _ => rfl) Nat.one_pos (by kernel_rfl) (by kernel_rfl) hb0 (fun m _ cs y hy => by
    cases cs with
    | nil => cases m with
      | zero => simp [DataW.trod] at hy
      | succ m =>
        unfold DataW.trod at hy
        rw [show Tryz.prog.underlying 9 = some .string by kernel_rfl] at hy
        simp at hy
    | cons c cs =>
      cases cs with
      | nil =>
        obtain ⟨s, rfl⟩ := trod_str (c := c) (by kernel_rfl) hy
        exact ⟨s, trivial, rel1 (rel_s s) rel0, by simp [one]⟩
      | cons c2 cs =>
        cases m with
        | zero => simp [DataW.trod] at hy
        | succ m =>
          unfold DataW.trod at hy
          rw [show Tryz.prog.underlying 9 = some .string by kernel_rfl] at hy
          simp at hy) h4
  obtain ⟨ni, items, k1, k2, k3, k4⟩ := trod_sl (c := c5) (z := 6) (e := 35) Val.cells (fun v => v.ok ∧ v.dep ≤ n) cells_len (by omega) (by kernel_rfl) (by kernel_rfl) hb0 (fun m hm cs y hy => by
    obtain ⟨v, q1, q2, q3, q4⟩ := ih m (by omega) cs y hy
    exact ⟨v, ⟨q1, by omega⟩, q3, q4⟩) h5
  refine ⟨.mk m0 m1 m2 s nn names ni items, ?_, ?_, ?_, ?_⟩
  · rw [Val.ok]; exact ⟨g1, k1, okL_all _ fun a ha => (k2 a ha).1⟩
  · rw [Val.dep]; have := dep_le items fun a ha => (k2 a ha).2; omega
  · rw [Val.cells, cellsL_eq]
    rw [names_flat] at g3
    exact rel1 (rel_i64 _) (rel1 (rel_i64 _) (rel1 (rel_i64 _) (rel1 (rel_s _) (rel1 g3 (rel1 k3 rel0)))))
  · intro u hu
    simp only [List.mem_cons, List.not_mem_nil, or_false] at hu
    rcases hu with rfl | rfl | rfl | rfl | rfl | rfl <;> first | rfl | exact g4 | exact k4
set_option maxRecDepth 20000 in
theorem trod_ev (hb0 : ∃ b0, b0 < w.heap.size) (n : Nat) (cs : List Value) (x : DataW H × List MemPlace) (h : DataW.trod enc Tryz.prog w 0 spareT held n 37 cs = some x) :
    ∃ v : Ev, (v.val.dep ≤ n ∧ v.val.ok) ∧ RelL w (allF w) v.cells Map.none cs ∧ ∀ u ∈ cs, one u = true := by
  cases n with
  | zero => simp [DataW.trod] at h
  | succ n =>
  obtain ⟨xs, _, _, _, hl, _⟩ := DataW.trod_struct st37 h
  rw [show Tryz.prog.cellsOf 37 = 11 by kernel_rfl] at hl
  match cs, hl with
  | [c0, c1, c2, c3, c4, c5, c6, c7, c8, c9, c10], _ =>
  obtain ⟨y0, h0⟩ := part_of_struct (i := 0) (ft := fld 37 0) (ty := 3) (off := 0) (sz := 1) st37 h (by kernel_rfl) (by kernel_rfl) (by kernel_rfl) (by kernel_rfl)
  obtain ⟨y1, h1⟩ := part_of_struct (i := 1) (ft := fld 37 1) (ty := 3) (off := 1) (sz := 1) st37 h (by kernel_rfl) (by kernel_rfl) (by kernel_rfl) (by kernel_rfl)
  obtain ⟨y2, h2⟩ := part_of_struct (i := 2) (ft := fld 37 2) (ty := 9) (off := 2) (sz := 1) st37 h (by kernel_rfl) (by kernel_rfl) (by kernel_rfl) (by kernel_rfl)
  obtain ⟨y3, h3⟩ := part_of_struct (i := 3) (ft := fld 37 3) (ty := 9) (off := 3) (sz := 1) st37 h (by kernel_rfl) (by kernel_rfl) (by kernel_rfl) (by kernel_rfl)
  obtain ⟨y4, h4⟩ := part_of_struct (i := 4) (ft := fld 37 4) (ty := 35) (off := 4) (sz := 6) st37 h (by kernel_rfl) (by kernel_rfl) (by kernel_rfl) (by kernel_rfl)
  obtain ⟨y5, h5⟩ := part_of_struct (i := 5) (ft := fld 37 5) (ty := 3) (off := 10) (sz := 1) st37 h (by kernel_rfl) (by kernel_rfl) (by kernel_rfl) (by kernel_rfl)
  obtain ⟨m0, rfl⟩ := trod_i64 (c := c0) (by kernel_rfl) h0
  obtain ⟨m1, rfl⟩ := trod_i64 (c := c1) (by kernel_rfl) h1
  obtain ⟨s2, rfl⟩ := trod_str (c := c2) (by kernel_rfl) h2
  obtain ⟨s3, rfl⟩ := trod_str (c := c3) (by kernel_rfl) h3
  obtain ⟨m5, rfl⟩ := trod_i64 (c := c10) (by kernel_rfl) h5
  obtain ⟨v, q1, q2, q3, q4⟩ := trod_val hb0 n [c4, c5, c6, c7, c8, c9] y4 h4
  refine ⟨⟨m0, m1, s2, s3, v, m5⟩, ⟨by show v.dep ≤ _; omega, q1⟩, ?_, ?_⟩
  · unfold Ev.cells
    exact relL_append (relL_append (rel1 (rel_i64 _) (rel1 (rel_i64 _) (rel1 (rel_s _) (rel1 (rel_s _) rel0)))) q3) (rel1 (rel_i64 _) rel0)
  · intro u hu
    simp only [List.mem_cons, List.not_mem_nil, or_false] at hu
    rcases hu with rfl | rfl | rfl | rfl | rfl | rfl | rfl | rfl | rfl | rfl | rfl <;> first | rfl | exact q4 _ (by simp)
end
end
end Go.Abs
namespace Go.Abs
noncomputable section
open Go Go.Proofs
/-! ## An event, a string, strings that came in -/
section
variable {H : Type} {enc : TypeId × Value → H} {w : World} {held : Bool} {x : DataW H × List MemPlace}
theorem trod_one (hb0 : ∃ b0, b0 < w.heap.size) (n : Nat) (cs : Array Value) (x : DataW H × List MemPlace) (h : DataW.trod enc Tryz.prog w 0 spareT held n 37 cs.toList = some x) :
    ∃ e : Ev, (e.val.dep ≤ n ∧ e.val.ok) ∧ Rel w (allF w) (.agg e.elv) Map.none (.agg cs) := by
  obtain ⟨e, hd, hr, ho⟩ := trod_ev hb0 n _ x h
  refine ⟨e, hd, ?_⟩
  unfold Rel
  refine ⟨cs, rfl, ?_, ho⟩
  rw [ev_cells] at hr
  exact hr
theorem rel_bytes (b : ByteArray) : Rel w (allF w) (.str b.data.toList) Map.none (.string b) := by unfold Rel; cases b; simp
set_option maxRecDepth 20000 in
theorem trod_txs (hb0 : ∃ b0, b0 < w.heap.size) (n : Nat) (c : Value) (x : DataW H × List MemPlace) (h : DataW.trod enc Tryz.prog w 0 spareT held n 29 [c] = some x) :
    ∃ (nn : Bool) (l : List (List UInt8)), l.length < big ∧ Rel w (allF w) (textsA nn l) Map.none c := by
  obtain ⟨nn, names, g1, _, g3, g4⟩ := trod_sl (c := c) (z := 1) (e := 9) (fun s : List UInt8 => [AV.str s]) (fun _ => True) (fun _ => rfl) Nat.one_pos (by kernel_rfl) (by kernel_rfl) hb0 (fun m _ cs y hy => by
    cases cs with
    | nil => cases m with
      | zero => simp [DataW.trod] at hy
      | succ m =>
        unfold DataW.trod at hy
        rw [show Tryz.prog.underlying 9 = some .string by kernel_rfl] at hy
        simp at hy
    | cons c cs =>
      cases cs with
      | nil =>
        obtain ⟨s, rfl⟩ := trod_str (c := c) (by kernel_rfl) hy
        exact ⟨s, trivial, rel1 (rel_s s) rel0, by simp [one]⟩
      | cons c2 cs =>
        cases m with
        | zero => simp [DataW.trod] at hy
        | succ m =>
          unfold DataW.trod at hy
          rw [show Tryz.prog.underlying 9 = some .string by kernel_rfl] at hy
          simp at hy) h
  rw [names_flat] at g3
  exact ⟨nn, names, g1, g3⟩
theorem txs_cnt {F : Nat → Prop} {nn : Bool} {l : List (List UInt8)} {a : Option Addr} {len cap : Nat} (h : Rel w F (textsA nn l) Map.none (.slice a len cap)) : l.length ≤ len := by
  cases l with
  | nil => exact Nat.zero_le _
  | cons s l =>
    have h : Rel w F (.slR ((s :: l).map .str) 0 (l.length + 1) (l.length + 1) false) Map.none (.slice a len cap) := h
    unfold Rel at h
    obtain ⟨b, o, a2, c, _, e, _⟩ := h
    injection e with e1 e2 e3
    rw [List.length_cons]; omega
/-- what is read takes no more room than there is -/
theorem trod_room {fuel : Nat} {a : Option Addr} {len cap : Nat} {d : DataW H} {p : List MemPlace} (h : DataW.trod enc Tryz.prog w 0 spareT held fuel 29 [.slice a len cap] = some (d, p)) (hw : (DataW.weights Tryz.prog 29 d).all (· ≤ reachBytes) = true) : len * 16 ≤ 140737488355328 := by
  have hu : Tryz.prog.underlying 29 = some (.slice 9) := by kernel_rfl
  have hb : Tryz.prog.bytesOf 9 = 16 := by kernel_rfl
  rcases DataW.trod_slice hu h with ⟨h0, _⟩ | ⟨a2, len2, cap2, elems, rest, n, _, hc, hx, _, _, _, hl, _⟩
  · simp only [List.cons.injEq, and_true] at h0
    injection h0 with _ e2 _
    omega
  · simp only [List.cons.injEq, and_true] at hc
    injection hc with _ e2 _
    have hd : d = .slice (elems.map (·.1)) (rest.map (·.1)) := congrArg Prod.fst hx
    subst hd
    unfold DataW.weights at hw
    rw [hu] at hw
    simp only [List.all_cons, Bool.and_eq_true, decide_eq_true_eq, List.length_map, hb] at hw
    have h1 := hw.1
    unfold reachBytes at h1
    have : len * 16 ≤ (elems.length + rest.length) * 16 := Nat.mul_le_mul_right _ (by omega)
    omega
end
end
end Go.Abs
