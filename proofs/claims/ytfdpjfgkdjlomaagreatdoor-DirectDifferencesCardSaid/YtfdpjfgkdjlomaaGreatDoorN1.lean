/- A part of the proof of DirectDifferences: see the last text of this claim. -/
import GoSem.ClaimJoined
import Derived.ChangeArms
import Derived.ChangeSlices
import Derived.Shelf.Vars
import Derived.Handed
import Derived.WalkKit
import Derived.ProofKit
import Derived.OpenShut
import Derived.ShutString
import Derived.ChangeOld
import Derived.Below
import Derived.Carry
import Derived.LaidLaws
import Derived.Test.YtfdpjfgkdjlomaaGreatDoorA4
import Derived.Test.YtfdpjfgkdjlomaaGreatDoorB4
namespace Go.Abs
noncomputable section
open Go
/-! ## What came in, as plain data: slices, structs, numbers, strings; what is read takes no more room than there is -/
section
variable {w : World} {F : Nat → Prop}
theorem relC_ofL : ∀ (ls : List AV) (vs : List Value) (b o : Nat), RelL w F ls Map.none vs → (∀ i x, vs[i]? = some x → w.cell? ⟨b, o + i, none⟩ = some x ∧ one x = true) → RelC w F ls b o
  | [], _, _, _, _, _ => by unfold RelC; trivial
  | a :: ls, vs, b, o, h, hc => by
    unfold RelL at h
    obtain ⟨v, vs, rfl, h1, h2⟩ := h
    unfold RelC
    have h0 := hc 0 v rfl
    refine ⟨⟨v, h0.1, h0.2, h1⟩, relC_ofL ls vs b (o + 1) h2 fun i x hx => ?_⟩
    have := hc (i + 1) x (by simpa using hx)
    rw [show o + 1 + i = o + (i + 1) by omega]
    exact this
theorem exists_list {α : Type} (P : Nat → α → Prop) : ∀ n, (∀ i, i < n → ∃ x, P i x) → ∃ l : List α, l.length = n ∧ ∀ i, (hi : i < l.length) → P i l[i]
  | 0, _ => ⟨[], rfl, fun i hi => by cases hi⟩
  | n + 1, h => by
    obtain ⟨l, hl, hp⟩ := exists_list P n fun i hi => h i (by omega)
    obtain ⟨x, hx⟩ := h n (by omega)
    refine ⟨l ++ [x], by simp [hl], fun i hi => ?_⟩
    by_cases hc : i < l.length
    · rw [List.getElem_append_left hc]; exact hp i hc
    · have : i = l.length := by simp at hi; omega
      subst this
      rw [List.getElem_append_right (by omega)]
      simpa [hl] using hx
theorem cell_spot {a : Addr} {x : Value} (h : w.cell? a = some x) : a = ⟨a.block, a.off, none⟩ ∧ a.block < w.heap.size := by
  unfold World.cell? at h
  split at h
  · rename_i c _ _ hb
    cases hs : a.spot with
    | some s => rw [hs] at h; cases h
    | none =>
      refine ⟨by cases a; simp at hs; subst hs; rfl, ?_⟩
      exact (Array.getElem?_eq_some_iff.1 hb).1
  · cases h
theorem add_eq {a : Addr} (h : a = ⟨a.block, a.off, none⟩) (n : Nat) : a.add n = ⟨a.block, a.off + n, none⟩ := by
  unfold Addr.add
  by_cases hn : n = 0
  · subst hn; rw [if_pos rfl]; exact h
  · rw [if_neg hn]
end
section
variable {H : Type} {enc : TypeId × Value → H} {P : Program} {w : World} {held : Bool} {fuel t e : Nat} {x : DataW H × List MemPlace} {c : Value}
abbrev allF (w : World) : Nat → Prop := fun b => b < w.heap.size
abbrev spareT : Nat → Bool := fun _ => true
abbrev fitW (P : Program) (t : TypeId) (d : DataW H) : Prop := (DataW.weights P t d).all (· ≤ reachBytes) = true
theorem maxLen_eq : maxLen = 9223372036854775807 := rfl
theorem weightsAll_mem {e : TypeId} : ∀ {l : List (DataW H)} {d : DataW H}, (DataW.weightsAll P e l).all (· ≤ reachBytes) = true → d ∈ l → fitW P e d
  | [], d, _, hd => by cases hd
  | a :: l, d, h, hd => by
    rw [DataW.weightsAll, List.all_append, Bool.and_eq_true] at h
    rcases List.mem_cons.1 hd with rfl | hd
    · exact h.1
    · exact weightsAll_mem h.2 hd
theorem weightsEach_at : ∀ {ts : List TypeId} {l : List (DataW H)} {i : Nat} {ty : TypeId} {d : DataW H}, (DataW.weightsEach P ts l).all (· ≤ reachBytes) = true → ts[i]? = some ty → l[i]? = some d → fitW P ty d
  | [], _, _, _, _, _, h1, _ => by cases h1
  | _ :: _, [], _, _, _, _, _, h2 => by cases h2
  | ty0 :: ts, d0 :: l, 0, ty, d, h, h1, h2 => by
    cases h1; cases h2
    rw [DataW.weightsEach, List.all_append, Bool.and_eq_true] at h
    exact h.1
  | ty0 :: ts, d0 :: l, i + 1, ty, d, h, h1, h2 => by
    rw [DataW.weightsEach, List.all_append, Bool.and_eq_true] at h
    exact weightsEach_at h.2 (by simpa using h1) (by simpa using h2)
theorem roomOk_of {n b : Nat} (hb : 0 < b) (h : n * b ≤ reachBytes) : roomOk n b = true := by
  unfold reachBytes at h
  have h1 : n ≤ n * b := Nat.le_mul_of_pos_right n hb
  unfold roomOk
  rw [Bool.and_eq_true]
  exact ⟨Nat.ble_eq_true_of_le (by show n * b ≤ _; omega), Nat.ble_eq_true_of_le (by omega)⟩
theorem trod_slT {T : PT} (PP : El T → Prop) (hz0 : 0 < width T) (hz : P.cellsOf e = width T) (ht : P.underlying t = some (.slice e)) (hb : 0 < P.bytesOf e) (hb0 : ∃ b0, b0 < w.heap.size)
    (he : ∀ m, m < fuel → ∀ cs y, DataW.trod enc P w 0 spareT held m e cs = some y → fitW P e y.1 → ∃ a : El T, PP a ∧ RelL w (allF w) (avT T a) Map.none cs ∧ ∀ u ∈ cs, one u = true)
    (h : DataW.trod enc P w 0 spareT held fuel t [c] = some x) (hw : fitW P t x.1) :
    ∃ l : List (El T), l.length < big ∧ roomOk l.length (P.bytesOf e) = true ∧ (∀ a ∈ l, PP a) ∧ Rel w (allF w) (.slT T l false) Map.none c ∧ one c = true := by
  rcases DataW.trod_slice ht h with ⟨h0, _⟩ | ⟨a, len, cap, elems, rest, n, rfl, hc, hx, _, hcl, hl, hm, hlen, hsp, _⟩
  · simp only [List.cons.injEq, and_true] at h0
    subst h0
    exact ⟨[], by unfold big; simp, by rw [List.length_nil]; exact roomOk_of hb (by rw [Nat.zero_mul]; exact Nat.zero_le _), fun a ha => (by cases ha), mk_slT (.inl ⟨rfl, rfl⟩), rfl⟩
  · simp only [List.cons.injEq, and_true] at hc
    subst hc
    rw [hz] at hlen hsp
    have hwe : (elems.length + rest.length) * P.bytesOf e ≤ reachBytes ∧ (DataW.weightsAll P e (elems.map (·.1))).all (· ≤ reachBytes) = true := by
      rw [hx] at hw
      unfold fitW at hw
      rw [DataW.weights, ht] at hw
      simp only [List.all_cons, List.all_append, Bool.and_eq_true, decide_eq_true_eq, List.length_map] at hw
      exact ⟨hw.1, hw.2.1⟩
    have each : ∀ i, i < len → ∃ b : El T, ∃ cs, w.cells? 0 (a.add (i * width T)) (width T) = some cs ∧ PP b ∧ RelL w (allF w) (avT T b) Map.none cs ∧ ∀ u ∈ cs, one u = true := by
      intro i hi
      have h1 := hlen i hi
      rw [List.getElem?_eq_getElem (by omega), Option.bind_eq_some_iff] at h1
      obtain ⟨cs, h2, h3⟩ := h1
      have hfit : fitW P e (elems[i]'(by omega)).1 := weightsAll_mem hwe.2 (List.mem_map_of_mem (List.getElem_mem _))
      obtain ⟨b, h4, h5, h6⟩ := he n (Nat.lt_succ_self n) cs _ h3 hfit
      exact ⟨b, cs, h2, h4, h5, h6⟩
    obtain ⟨l, hll, hl2⟩ := exists_list (fun i (b : El T) => ∃ cs, w.cells? 0 (a.add (i * width T)) (width T) = some cs ∧ PP b ∧ RelL w (allF w) (avT T b) Map.none cs ∧ ∀ u ∈ cs, one u = true) len each
    have hspot : ∀ i cs, w.cells? 0 (a.add (i * width T)) (width T) = some cs → ∃ b o, a.add (i * width T) = ⟨b, o, none⟩ ∧ b < w.heap.size := by
      intro i cs hcs
      have h1 := (World.cells?_some hcs).2.2 0 hz0
      have h2 := (World.cells?_some hcs).2.1
      rw [List.getElem?_eq_getElem (by omega)] at h1
      have h3 := cell_spot h1
      have h0 : (a.add (i * width T)).add 0 = a.add (i * width T) := rfl
      rw [h0] at h3
      exact ⟨_, _, h3.1, h3.2⟩
    have haddr : cap ≠ 0 → a = ⟨a.block, a.off, none⟩ ∧ a.block < w.heap.size := by
      intro hcap
      have key : ∃ cs, w.cells? 0 (a.add (0 * width T)) (width T) = some cs := by
        by_cases h0 : 0 < len
        · obtain ⟨cs, h1, _⟩ := hl2 0 (by omega)
          exact ⟨cs, h1⟩
        · obtain ⟨hr1, hr2⟩ := hsp rfl
          have h1 := hr2 0 (by omega)
          rw [List.getElem?_eq_getElem (by omega), Option.bind_eq_some_iff] at h1
          obtain ⟨cs, h2, _⟩ := h1
          have hl0 : len + 0 = 0 := by omega
          rw [hl0] at h2
          exact ⟨cs, h2⟩
      obtain ⟨cs, h1⟩ := key
      obtain ⟨b, o, h2, h3⟩ := hspot 0 cs h1
      have h0 : a.add (0 * width T) = a := by rw [Nat.zero_mul]; rfl
      rw [h0] at h2
      subst h2
      exact ⟨rfl, h3⟩
    refine ⟨l, by rw [hll]; unfold big; have := maxLen_eq; omega, roomOk_of hb (Nat.le_trans (Nat.mul_le_mul_right _ (by omega)) hwe.1), fun b hb => ?_, ?_, rfl⟩
    · obtain ⟨i, hi, rfl⟩ := List.getElem_of_mem hb
      obtain ⟨_, _, h1, _⟩ := hl2 i hi
      exact h1
    · by_cases hcap : cap = 0
      · obtain ⟨b0, hb0⟩ := hb0
        refine mk_slT (.inr ⟨b0, 0, a, cap, hb0, by rw [hll], by rw [hll]; exact hcl, fun h => (by cases h), fun h => absurd hcap h, fun i x hx => ?_⟩)
        have := (List.getElem?_eq_some_iff.1 hx).1
        omega
      · obtain ⟨h1, h2⟩ := haddr hcap
        refine mk_slT (.inr ⟨a.block, a.off, a, cap, h2, by rw [hll], by rw [hll]; exact hcl, fun h => (by cases h), fun _ => h1, fun i y hy => ?_⟩)
        have hi : i < l.length := (List.getElem?_eq_some_iff.1 hy).1
        have hyl : l[i] = y := (List.getElem?_eq_some_iff.1 hy).2
        obtain ⟨cs, h3, _, h5, h6⟩ := hl2 i hi
        rw [hyl] at h5
        refine relC_ofL _ cs _ _ h5 fun j u hu => ?_
        have hj : j < width T := by rw [← (World.cells?_some h3).2.1]; exact (List.getElem?_eq_some_iff.1 hu).1
        have h7 := (World.cells?_some h3).2.2 j hj
        rw [hu, add_eq h1, add_eq rfl] at h7
        exact ⟨h7, h6 u (List.mem_of_getElem? hu)⟩
theorem part_of_struct {fs : Array Field} {cs : List Value} {ft : Field} {i ty off sz : Nat} (ht : P.underlying t = some (.struct fs)) (h : DataW.trod enc P w 0 spareT held (fuel + 1) t cs = some x) (hw : fitW P t x.1) (hf : fs[i]? = some ft) (h1 : ft.type = ty) (h2 : ft.offset = off) (h3 : P.cellsOf ty = sz) :
    ∃ y, DataW.trod enc P w 0 spareT held fuel ty ((cs.drop off).take sz) = some y ∧ fitW P ty y.1 := by
  obtain ⟨xs, n, hn, hx, _, hl, hp⟩ := DataW.trod_struct ht h
  have : n = fuel := by omega
  subst this
  have := hp i ft hf
  rw [h1, h2, h3] at this
  have hi : i < xs.length := by rw [hl]; exact (Array.getElem?_eq_some_iff.1 hf).1
  refine ⟨xs[i], by rw [this, List.getElem?_eq_getElem hi], ?_⟩
  rw [hx] at hw
  unfold fitW at hw
  rw [DataW.weights, ht] at hw
  refine weightsEach_at (i := i) hw ?_ ?_
  · rw [List.getElem?_map, Array.getElem?_toList, hf, Option.map_some, h1]
  · rw [List.getElem?_map, List.getElem?_eq_getElem hi]; rfl
theorem trod_str (ht : P.underlying t = some .string) (h : DataW.trod enc P w 0 spareT held fuel t [c] = some x) : ∃ s : List UInt8, s.length < big ∧ c = .string ⟨⟨s⟩⟩ := by
  cases fuel with
  | zero => simp [DataW.trod] at h
  | succ n =>
    unfold DataW.trod at h
    rw [ht] at h
    split at h <;> simp_all
    rename_i s _
    refine ⟨s.data.toList, ?_, by cases s; simp⟩
    have h1 : s.size ≤ maxLen := h.1
    rw [maxLen_eq] at h1
    show s.data.toList.length < 9223372036854775808
    rw [Array.length_toList]
    exact Nat.lt_succ_of_le h1
theorem trod_i64 (ht : P.underlying t = some (.int .i64)) (h : DataW.trod enc P w 0 spareT held fuel t [c] = some x) : ∃ m : Int, c = .int .i64 m := by
  obtain ⟨m, hm, _⟩ := DataW.trod_int ht h
  exact ⟨m, by simpa using hm⟩
end
end
end Go.Abs
namespace Go.Abs
noncomputable section
open Go Go.Proofs
/-! ## Values, events and runs that came in -/
noncomputable def fsOf (t : Nat) : Array Field := match Tryz.prog.underlying t with | some (.struct fs) => fs | _ => #[]
theorem by9 : 0 < Tryz.prog.bytesOf 9 := by rw [show Tryz.prog.bytesOf 9 = 16 by kernel_rfl]; decide
theorem by56 : 0 < Tryz.prog.bytesOf 56 := by rw [show Tryz.prog.bytesOf 56 = 88 by kernel_rfl]; decide
theorem by3 : 0 < Tryz.prog.bytesOf 3 := by rw [show Tryz.prog.bytesOf 3 = 8 by kernel_rfl]; decide
theorem by58 : 0 < Tryz.prog.bytesOf 58 := by rw [show Tryz.prog.bytesOf 58 = 144 by kernel_rfl]; decide
theorem st56 : Tryz.prog.underlying 56 = some (.struct (fsOf 56)) := by kernel_rfl
theorem st58 : Tryz.prog.underlying 58 = some (.struct (fsOf 58)) := by kernel_rfl
theorem st25 : Tryz.prog.underlying 25 = some (.struct (fsOf 25)) := by kernel_rfl
noncomputable def fld (t i : Nat) : Field := (fsOf t).getD i default
theorem okL_all : ∀ l : List Val, (∀ a ∈ l, a.ok) → okL l
  | [], _ => by rw [okL]; trivial
  | a :: l, h => by rw [okL]; exact ⟨h a (List.mem_cons_self ..), okL_all l fun x hx => h x (List.mem_cons_of_mem _ hx)⟩
theorem roomL_all : ∀ l : List Val, (∀ a ∈ l, a.room) → roomL l
  | [], _ => by rw [roomL]; trivial
  | a :: l, h => by rw [roomL]; exact ⟨h a (List.mem_cons_self ..), roomL_all l fun x hx => h x (List.mem_cons_of_mem _ hx)⟩
theorem mk_ok {k n e : Int} {s : Str} {nn ni : Bool} {names : List Str} {items : List Val} (h : s.length < big ∧ names.length < big ∧ items.length < big ∧ okL items ∧ ∀ x ∈ names, x.length < big) : (Val.mk k n e s nn names ni items).ok := by rw [Val.ok]; exact h
theorem mk_room {k n e : Int} {s : Str} {nn ni : Bool} {names : List Str} {items : List Val} (h : roomOk names.length 16 = true ∧ roomOk items.length 88 = true ∧ roomL items) : (Val.mk k n e s nn names ni items).room := by rw [Val.room]; exact h
section
variable {H : Type} {enc : TypeId × Value → H} {w : World} {held : Bool} {x : DataW H × List MemPlace}
theorem rel1 {a : AV} {v : Value} {ls : List AV} {vs : List Value} (h : Rel w (allF w) a Map.none v) (r : RelL w (allF w) ls Map.none vs) : RelL w (allF w) (a :: ls) Map.none (v :: vs) := by
  unfold RelL; exact ⟨v, vs, rfl, h, r⟩
theorem rel0 : RelL w (allF w) [] Map.none [] := by unfold RelL; rfl
theorem rel_i64 (m : Int) : Rel w (allF w) (.int .i64 m) Map.none (.int .i64 m) := by unfold Rel; rfl
theorem rel_s (s : List UInt8) : Rel w (allF w) (.str s) Map.none (.string ⟨⟨s⟩⟩) := by unfold Rel; rfl
theorem relL_append {a b : List AV} {u v : List Value} : RelL w (allF w) a Map.none u → RelL w (allF w) b Map.none v → RelL w (allF w) (a ++ b) Map.none (u ++ v) := by
  induction a generalizing u with
  | nil => intro h k; unfold RelL at h; subst h; exact k
  | cons a l ih =>
    intro h k
    unfold RelL at h
    obtain ⟨x, xs, rfl, h1, h2⟩ := h
    exact rel1 h1 (ih h2 k)
theorem trod_strs (n : Nat) (cs : List Value) (y : DataW H × List MemPlace) (hy : DataW.trod enc Tryz.prog w 0 spareT held n 9 cs = some y) : ∃ s : Str, s.length < big ∧ RelL w (allF w) (avT .str s) Map.none cs ∧ ∀ u ∈ cs, one u = true := by
  match cs with
  | [c] =>
    obtain ⟨s, hs, rfl⟩ := trod_str (c := c) (by kernel_rfl) hy
    exact ⟨s, hs, rel1 (rel_s s) rel0, by simp [one]⟩
  | [] => cases n with
    | zero => simp [DataW.trod] at hy
    | succ m =>
      unfold DataW.trod at hy
      rw [show Tryz.prog.underlying 9 = some .string by kernel_rfl] at hy
      simp at hy
  | _ :: _ :: _ => cases n with
    | zero => simp [DataW.trod] at hy
    | succ m =>
      unfold DataW.trod at hy
      rw [show Tryz.prog.underlying 9 = some .string by kernel_rfl] at hy
      simp at hy
theorem trod_ints (n : Nat) (cs : List Value) (y : DataW H × List MemPlace) (hy : DataW.trod enc Tryz.prog w 0 spareT held n 3 cs = some y) : ∃ m : Int, True ∧ RelL w (allF w) (avT .int m) Map.none cs ∧ ∀ u ∈ cs, one u = true := by
  obtain ⟨m, hm, _⟩ := DataW.trod_int (show Tryz.prog.underlying 3 = some (.int .i64) by kernel_rfl) hy
  subst hm
  exact ⟨m, trivial, rel1 (rel_i64 m) rel0, by simp [one]⟩

set_option maxRecDepth 20000 in
theorem trod_val (hb0 : ∃ b0, b0 < w.heap.size) : ∀ (n : Nat) (cs : List Value) (x : DataW H × List MemPlace), DataW.trod enc Tryz.prog w 0 spareT held n 56 cs = some x → fitW Tryz.prog 56 x.1 →
    ∃ v : Val, (v.ok ∧ v.room) ∧ RelL w (allF w) (avT .val v) Map.none cs ∧ ∀ u ∈ cs, one u = true := by
  intro n
  induction n using Nat.strongRecOn with
  | _ n ih =>
  intro cs x h hw
  cases n with
  | zero => simp [DataW.trod] at h
  | succ n =>
  obtain ⟨xs, _, _, _, hl, _⟩ := DataW.trod_struct st56 h
  rw [show Tryz.prog.cellsOf 56 = 6 by kernel_rfl] at hl
  match cs, hl with
  | [c0, c1, c2, c3, c4, c5], _ =>
  obtain ⟨y0, h0, _⟩ := part_of_struct (i := 0) (ft := fld 56 0) (ty := 3) (off := 0) (sz := 1) st56 h hw (by kernel_rfl) (by kernel_rfl) (by kernel_rfl) (by kernel_rfl)
  obtain ⟨y1, h1, _⟩ := part_of_struct (i := 1) (ft := fld 56 1) (ty := 3) (off := 1) (sz := 1) st56 h hw (by kernel_rfl) (by kernel_rfl) (by kernel_rfl) (by kernel_rfl)
  obtain ⟨y2, h2, _⟩ := part_of_struct (i := 2) (ft := fld 56 2) (ty := 3) (off := 2) (sz := 1) st56 h hw (by kernel_rfl) (by kernel_rfl) (by kernel_rfl) (by kernel_rfl)
  obtain ⟨y3, h3, _⟩ := part_of_struct (i := 3) (ft := fld 56 3) (ty := 9) (off := 3) (sz := 1) st56 h hw (by kernel_rfl) (by kernel_rfl) (by kernel_rfl) (by kernel_rfl)
  obtain ⟨y4, h4, w4⟩ := part_of_struct (i := 4) (ft := fld 56 4) (ty := 38) (off := 4) (sz := 1) st56 h hw (by kernel_rfl) (by kernel_rfl) (by kernel_rfl) (by kernel_rfl)
  obtain ⟨y5, h5, w5⟩ := part_of_struct (i := 5) (ft := fld 56 5) (ty := 54) (off := 5) (sz := 1) st56 h hw (by kernel_rfl) (by kernel_rfl) (by kernel_rfl) (by kernel_rfl)
  obtain ⟨m0, rfl⟩ := trod_i64 (c := c0) (by kernel_rfl) h0
  obtain ⟨m1, rfl⟩ := trod_i64 (c := c1) (by kernel_rfl) h1
  obtain ⟨m2, rfl⟩ := trod_i64 (c := c2) (by kernel_rfl) h2
  obtain ⟨s, hs, rfl⟩ := trod_str (c := c3) (by kernel_rfl) h3
  obtain ⟨names, g1, gr, g2, g3, g4⟩ := trod_slT (T := .str) (c := c4) (e := 9) (fun s : Str => s.length < big) Nat.one_pos (by kernel_rfl) (by kernel_rfl) by9 hb0 (fun m _ cs y hy _ => trod_strs m cs y hy) h4 w4
  obtain ⟨items, k1, kr, k2, k3, k4⟩ := trod_slT (T := .val) (c := c5) (e := 56) (fun v : Val => v.ok ∧ v.room) (by decide) (by kernel_rfl) (by kernel_rfl) by56 hb0 (fun m hm cs y hy wy => ih m (by omega) cs y hy wy) h5 w5
  rw [show Tryz.prog.bytesOf 9 = 16 by kernel_rfl] at gr
  rw [show Tryz.prog.bytesOf 56 = 88 by kernel_rfl] at kr
  have h6 : (Val.mk m0 m1 m2 s true names true items).ok := mk_ok ⟨hs, g1, k1, okL_all _ fun a ha => (k2 a ha).1, g2⟩
  have h7 : (Val.mk m0 m1 m2 s true names true items).room := mk_room ⟨gr, kr, roomL_all _ fun a ha => (k2 a ha).2⟩
  refine ⟨.mk m0 m1 m2 s true names true items, ⟨h6, h7⟩, ?_, ?_⟩
  · exact rel1 (rel_i64 _) (rel1 (rel_i64 _) (rel1 (rel_i64 _) (rel1 (rel_s _) (rel1 g3 (rel1 k3 rel0)))))
  · intro u hu
    simp only [List.mem_cons, List.not_mem_nil, or_false] at hu
    rcases hu with rfl | rfl | rfl | rfl | rfl | rfl <;> first | rfl | exact g4 | exact k4
set_option maxRecDepth 20000 in
theorem trod_ev (hb0 : ∃ b0, b0 < w.heap.size) (n : Nat) (cs : List Value) (x : DataW H × List MemPlace) (h : DataW.trod enc Tryz.prog w 0 spareT held n 58 cs = some x) (hw : fitW Tryz.prog 58 x.1) :
    ∃ v : Mev, (v.value.ok ∧ v.value.room) ∧ RelL w (allF w) (avT .event v) Map.none cs ∧ ∀ u ∈ cs, one u = true := by
  cases n with
  | zero => simp [DataW.trod] at h
  | succ n =>
  obtain ⟨xs, _, _, _, hl, _⟩ := DataW.trod_struct st58 h
  rw [show Tryz.prog.cellsOf 58 = 11 by kernel_rfl] at hl
  match cs, hl with
  | [c0, c1, c2, c3, c4, c5, c6, c7, c8, c9, c10], _ =>
  obtain ⟨y0, h0, _⟩ := part_of_struct (i := 0) (ft := fld 58 0) (ty := 3) (off := 0) (sz := 1) st58 h hw (by kernel_rfl) (by kernel_rfl) (by kernel_rfl) (by kernel_rfl)
  obtain ⟨y1, h1, _⟩ := part_of_struct (i := 1) (ft := fld 58 1) (ty := 3) (off := 1) (sz := 1) st58 h hw (by kernel_rfl) (by kernel_rfl) (by kernel_rfl) (by kernel_rfl)
  obtain ⟨y2, h2, _⟩ := part_of_struct (i := 2) (ft := fld 58 2) (ty := 9) (off := 2) (sz := 1) st58 h hw (by kernel_rfl) (by kernel_rfl) (by kernel_rfl) (by kernel_rfl)
  obtain ⟨y3, h3, _⟩ := part_of_struct (i := 3) (ft := fld 58 3) (ty := 9) (off := 3) (sz := 1) st58 h hw (by kernel_rfl) (by kernel_rfl) (by kernel_rfl) (by kernel_rfl)
  obtain ⟨y4, h4, w4⟩ := part_of_struct (i := 4) (ft := fld 58 4) (ty := 56) (off := 4) (sz := 6) st58 h hw (by kernel_rfl) (by kernel_rfl) (by kernel_rfl) (by kernel_rfl)
  obtain ⟨y5, h5, _⟩ := part_of_struct (i := 5) (ft := fld 58 5) (ty := 3) (off := 10) (sz := 1) st58 h hw (by kernel_rfl) (by kernel_rfl) (by kernel_rfl) (by kernel_rfl)
  obtain ⟨m0, rfl⟩ := trod_i64 (c := c0) (by kernel_rfl) h0
  obtain ⟨m1, rfl⟩ := trod_i64 (c := c1) (by kernel_rfl) h1
  obtain ⟨s2, _, rfl⟩ := trod_str (c := c2) (by kernel_rfl) h2
  obtain ⟨s3, _, rfl⟩ := trod_str (c := c3) (by kernel_rfl) h3
  obtain ⟨m5, rfl⟩ := trod_i64 (c := c10) (by kernel_rfl) h5
  obtain ⟨v, q1, q2, q3⟩ := trod_val hb0 n [c4, c5, c6, c7, c8, c9] y4 h4 w4
  refine ⟨⟨m0, m1, s2, s3, v, m5⟩, q1, ?_, ?_⟩
  · exact relL_append (a := [.int .i64 m0, .int .i64 m1, .str s2, .str s3]) (b := avT .val v ++ [.int .i64 m5]) (u := [.int .i64 m0, .int .i64 m1, .string ⟨⟨s2⟩⟩, .string ⟨⟨s3⟩⟩]) (v := [c4, c5, c6, c7, c8, c9] ++ [.int .i64 m5]) (rel1 (rel_i64 _) (rel1 (rel_i64 _) (rel1 (rel_s _) (rel1 (rel_s _) rel0)))) (relL_append q2 (rel1 (rel_i64 _) rel0))
  · intro u hu
    simp only [List.mem_cons, List.not_mem_nil, or_false] at hu
    rcases hu with rfl | rfl | rfl | rfl | rfl | rfl | rfl | rfl | rfl | rfl | rfl <;> first | rfl | exact q3 _ (by simp)
set_option maxRecDepth 20000 in
/-- a run that came in -/
theorem trod_run (hb0 : ∃ b0, b0 < w.heap.size) (n : Nat) (cs : Array Value) (x : DataW H × List MemPlace) (h : DataW.trod enc Tryz.prog w 0 spareT held n 25 cs.toList = some x) (hw : fitW Tryz.prog 25 x.1) :
    ∃ (ch : List Int) (ev : List Mev) (vd : List Int) (st : Int), RunOk ch ev vd ∧ Rel w (allF w) (.agg [.slT .int ch false, .slT .event ev false, .slT .int vd false, .int .i64 st]) Map.none (.agg cs) := by
  obtain ⟨cs⟩ := cs
  cases n with
  | zero => simp [DataW.trod] at h
  | succ n =>
  obtain ⟨xs, _, _, _, hl, _⟩ := DataW.trod_struct st25 h
  rw [show Tryz.prog.cellsOf 25 = 4 by kernel_rfl] at hl
  match cs, hl with
  | [c0, c1, c2, c3], _ =>
  obtain ⟨y0, h0, w0⟩ := part_of_struct (i := 0) (ft := fld 25 0) (ty := 22) (off := 0) (sz := 1) st25 h hw (by kernel_rfl) (by kernel_rfl) (by kernel_rfl) (by kernel_rfl)
  obtain ⟨y1, h1, w1⟩ := part_of_struct (i := 1) (ft := fld 25 1) (ty := 23) (off := 1) (sz := 1) st25 h hw (by kernel_rfl) (by kernel_rfl) (by kernel_rfl) (by kernel_rfl)
  obtain ⟨y2, h2, w2⟩ := part_of_struct (i := 2) (ft := fld 25 2) (ty := 22) (off := 2) (sz := 1) st25 h hw (by kernel_rfl) (by kernel_rfl) (by kernel_rfl) (by kernel_rfl)
  obtain ⟨y3, h3, w3⟩ := part_of_struct (i := 3) (ft := fld 25 3) (ty := 3) (off := 3) (sz := 1) st25 h hw (by kernel_rfl) (by kernel_rfl) (by kernel_rfl) (by kernel_rfl)
  obtain ⟨ch, _, a2, _, a4, a5⟩ := trod_slT (T := .int) (c := c0) (e := 3) (fun _ : Int => True) (by decide) (by kernel_rfl) (by kernel_rfl) by3 hb0 (fun m _ cs y hy _ => trod_ints m cs y hy) h0 w0
  obtain ⟨ev, b1, b2, b3, b4, b5⟩ := trod_slT (T := .event) (c := c1) (e := 58) (fun v : Mev => v.value.ok ∧ v.value.room) (by decide) (by kernel_rfl) (by kernel_rfl) by58 hb0 (fun m _ cs y hy wy => trod_ev hb0 m cs y hy wy) h1 w1
  obtain ⟨vd, _, d2, _, d4, d5⟩ := trod_slT (T := .int) (c := c2) (e := 3) (fun _ : Int => True) (by decide) (by kernel_rfl) (by kernel_rfl) by3 hb0 (fun m _ cs y hy _ => trod_ints m cs y hy) h2 w2
  obtain ⟨st, rfl⟩ := trod_i64 (c := c3) (by kernel_rfl) h3
  rw [show Tryz.prog.bytesOf 3 = 8 by kernel_rfl] at a2 d2
  rw [show Tryz.prog.bytesOf 58 = 144 by kernel_rfl] at b2
  refine ⟨ch, ev, vd, st, ⟨b1, fun i hi => ?_, fun i hi => ?_, b2, a2, d2⟩, ?_⟩
  · rw [eAt_get hi]; exact (b3 _ (List.getElem_mem hi)).1
  · rw [eAt_get hi]; exact (b3 _ (List.getElem_mem hi)).2
  · unfold Rel
    refine ⟨_, rfl, rel1 a4 (rel1 b4 (rel1 d4 (rel1 (rel_i64 _) rel0))), fun u hu => ?_⟩
    simp only [List.mem_cons, List.not_mem_nil, or_false] at hu
    rcases hu with rfl | rfl | rfl | rfl <;> first | rfl | exact a5 | exact b5 | exact d5
end
end
end Go.Abs
namespace Go.Abs
noncomputable section
open Go Go.Proofs
open Go.ChangeShapes Go.WideShapes Go.ChangeAt Go.RowKit
/-! ## What the interpreter asks of the library's variables; the wrap, the world's shape kept -/
theorem maxLen_cell {W : World} (h : W.ShapedOpen Tryz.prog) : ∃ m, W.cell? ⟨0, 0, none⟩ = some (.int .i64 m) :=
  cell_of_shapedOpen_int (t := 3) (zero := #[.int .i64 0]) h (of_decide_eq_true (by kernel_rfl)) (by kernel_rfl) rfl (by kernel_rfl) (by kernel_rfl) (by kernel_rfl)
theorem grel {W : World} (hm : ∃ m, W.cell? ⟨0, 0, none⟩ = some (.int .i64 m)) : GRel CB W (allF W) := by
  refine ⟨fun g => ?_, fun g vs e => ?_, fun g e => ?_⟩
  · show Rel W (allF W) .dead Map.none _
    unfold Rel; trivial
  · cases e
  · have : g = 0 := Nat.eq_of_beq_eq_true e
    subst this
    obtain ⟨m, hm⟩ := hm
    exact ⟨(cell_spot hm).2, m, hm⟩
theorem handed_shaped {H : Type} {enc : TypeId × Value → H} {a : Assume} {C : Checked} {os : Os} {f : FuncId} {fn : Func} {s : ChangeSpec} {conds : List PathCond} {apart fresh handsOn again : Bool} {X : World → Array Value → Prop}
    (hX : ∀ (w w' : World) (args : Array Value), w.heap = w'.heap → X w args → X w' args)
    (own : ownKnob C.prog.godebug = none) (started : os.Started) (noInit : C.prog.inits.idxOf? f = none) (hfn : C.prog.funcs[f]? = some fn)
    (witness : ∃ (w : World) (tape : Tape) (i : Input), w.os = os ∧ (w.forCall tape i).Shaped C.prog ∧ i.vars = [] ∧ Input.okWide C.prog (w.forCall tape i) .any w.heap.size f i ∧
      ((s.pre enc C.prog fn conds apart (w.forCall tape i).memory i.args ∧ X (w.forCall tape i).memory i.args) ∧ sizedMet enc C.prog fn (OpenSpec.ofChange s) apart (w.forCall tape i).memory i.args) ∧ a.holds C.prog (lone (Frame.enter C.prog f i.args .normal) [] (w.forCall tape i)))
    (contract : ∀ (W : World) (base : Nat) (args : Array Value) (ds gs : List (DataW H)) (before : List MemPlace),
      (∀ (j : Nat) t v, fn.params[j]? = some t → args[j]? = some v → Value.okWide C.prog W .any base t v) →
      DataW.Whole enc C.prog fn.params.toList s.vars apart W args.toList ds gs before →
      conds.all (PathCond.test C.prog ⟨fn.params.toList, ds, s.plain.varTypes C.prog, gs⟩) = true →
      (DataW.weightsEach C.prog (fn.params.toList ++ s.plain.varTypes C.prog) (ds ++ gs)).all (· ≤ reachBytes) = true → W.ShapedOpen C.prog → X W args →
      a.holds C.prog (lone (Frame.enter C.prog f args .normal) [] W) →
      Calls C.prog f args W fun e W' => ∃ v, e = .returned v ∧ s.post enc C.prog fn apart fresh handsOn again W args v W') :
    ReturnsInHanded a C os f .any (fun w args => (s.pre enc C.prog fn conds apart w args ∧ X w args) ∧ sizedMet enc C.prog fn (OpenSpec.ofChange s) apart w args) (s.post enc C.prog fn apart fresh handsOn again) := by
  refine returnsInHanded_of_calls own started noInit witness ?_
  intro w tape i _ hsh _ hok hpre hholds
  obtain ⟨_, _, _, fn', hfn', _, _, _, _, hval⟩ := hok
  have e : fn' = fn := Option.some.inj (hfn'.symm.trans hfn)
  subst e
  obtain ⟨⟨⟨ds, gs, before, hw, hc⟩, hx⟩, hz⟩ := hpre
  have hw' := DataW.Whole.of_heap (w' := w.forCall tape i) (by rfl) hw
  refine (contract (w.forCall tape i) w.heap.size i.args ds gs before hval hw' hc (hz.weights hw) hsh (hX _ _ _ (by rfl) hx) hholds).mono fun e W' ⟨v, he, hp⟩ => ?_
  subst he
  exact ChangeSpec.post_blind hp
end
end Go.Abs
