/- A part of the proofs of the laws of logs: see the last text of this claim. -/
import Derived.Test.YtlehhkleemaloaaGreatDoorB3
namespace Go.Abs
noncomputable section
open Go Go.Proofs
variable {K : Nat}
theorem name_txt {v : Val} (hs : v.sm) (i : Nat) : (txt (v.names.getD i [])).length ≤ 222 := by
  rw [List.getD_eq_getElem?_getD]
  rcases Nat.lt_or_ge i v.names.length with h | h
  · rw [List.getElem?_eq_getElem h, Option.getD_some]
    have := (sm_head hs).2.2.2.2.2 _ (List.getElem_mem h)
    have := txt_len (s := v.names[i]) (by omega)
    omega
  · rw [List.getElem?_eq_none h, Option.getD_none]
    have := txt_len (s := []) (by simp)
    simp at this
    omega
end
end Go.Abs
namespace Go.Abs
noncomputable section
open Go Go.Proofs
variable {K : Nat}
/-! ## Walks whose memory behind is not told beforehand -/
section
variable {C : Cfg} {F : Fns} {Q : Out → Prop} {ops : Array Oper} {l : List Oper} {d : Dr} {j : Nat} {pl : List Nat} {f : FuncId} {fn : Func} {c : Code} {args : List AV} {v v' : AV} {s : St}
/-- an operation that changes memory, in a drawn region -/
theorem WE.opm {y : OR} {x : AV} {h' : Heap} (hy : y = some (x, h')) (h1 : opIn C ops l d.s = some y) (hc : isC C .m l = true) (w : WE C F ops (Nat.succ j) (dropN l 1) (putD l j d x h') pl Q) : WE C F ops j l d pl Q := by
  intro hp hm
  cases l with
  | nil => cases h1
  | cons o l =>
    have hq : cls C o.op = .m := beq_cls.1 hc
    obtain ⟨hw, he⟩ := opIn_oper (F := F) h1 hy
    obtain ⟨d2, e, q⟩ := w (fun p hp' => by have := hp p hp'; omega) ⟨fun m hm' hmp => by
      rcases List.mem_cons.1 hm' with rfl | h
      · have := hp _ hmp; exact absurd this (Nat.lt_irrefl _)
      · exact hm.1 m h hmp, fun m hm' => by
      rcases List.mem_cons.1 hm' with rfl | h
      · exact Nat.lt_succ_self _
      · have := hm.2 m h; omega⟩
    refine ⟨d2, ?_, q⟩
    rw [drawOps_cons, hw]
    have hh : (d.s.set o.dst x h').h = h' := by
      unfold St.set
      cases o.dst with
      | none => rfl
      | some k => simp only; cases Nat.ble (Nat.succ k) d.s.n <;> rfl
    have hstep : drawStep C F j o d = some (.inl (putD (o :: l) j d x h')) := by
      unfold drawStep
      rw [hq]
      simp only [he, hh]
      rfl
    simp only [hstep]
    rw [dropN_eq] at e
    exact e
/-- the state behind a read of a known block -/
def putR (l : List Oper) (j : Nat) (d : Dr) (x : AV) (id : Nat) : Dr := { s := putIn l d.s x d.s.h, made := d.made, reads := (j, id) :: d.reads, ms := d.ms }
theorem WE.opr {y : OR} {x : AV} {id : Nat} {h' : Heap} (hs : d.s.h = h') (hy : y = some (x, h')) (h1 : opIn C ops l d.s = some y) (hc : isC C .l l = true) (hr : readsIn C l d.s = some id) (w : WE C F ops (Nat.succ j) (dropN l 1) (putR l j d x id) pl Q) : WE C F ops j l d pl Q := by
  subst hs
  intro hp hm
  cases l with
  | nil => cases h1
  | cons o l =>
    have hq : cls C o.op = .l := beq_cls.1 hc
    obtain ⟨hw, he⟩ := opIn_oper (F := F) h1 hy
    obtain ⟨d2, e, q⟩ := w (fun p hp' => by have := hp p hp'; omega) ⟨hm.1, fun m hm' => by have := hm.2 m hm'; omega⟩
    refine ⟨d2, ?_, q⟩
    rw [drawOps_cons, hw]
    have hr : readId C d.s.tm o.op = some id := hr
    have hstep : drawStep C F j o d = some (.inl (putR (o :: l) j d x id)) := by
      unfold drawStep
      rw [hq]
      simp only [he, hr]
      rfl
    simp only [hstep]
    rw [dropN_eq] at e
    exact e
def RetX (C : Cfg) (F : Fns) (fn : Func) (v : AV) (P : Heap → Prop) (o : Out) : Prop := ∃ h', RetN C F fn v h' o ∧ P h'
theorem RetX.k {P : Heap → Prop} {h' : Heap} (hP : P h') (hv : v = v') (hd : (s.ds, s.pn) = ([], none)) (hr : retW C fn s = some v') (he : s.h = h') : RetX C F fn v P (.ret s) := ⟨h', RetN.k hv rfl hd hr he, hP⟩
theorem RetX.kn {P : Heap → Prop} {h' : Heap} (hP : P h') (hv : v = v') (hd : (s.ds, s.pn) = ([], none)) (hr : retW C fn s = some v') (he : s.h = h') : RetX C F fn v P (.nrm s) := ⟨h', RetN.kn hv rfl hd hr he, hP⟩
theorem plainx (ho : C.own1 f = false) (hp : C.pure f = false) (hs : C.spec f args = none) (hf : C.P.funcs[f]? = some fn) (hb : fn.body = some c) (hl : Nat.ble (lenN args) fn.ntmps = true) {h : Heap} {P : Heap → Prop}
    (w : W C F c { n := fn.ntmps, tm := tmOf 0 args (fullT 12 fn.ntmps), h, ds := [], pn := none } (RetX C F fn v P)) : ∃ h', (stepF C F).call f args h none = some (.val v h' none) ∧ P h' := by
  obtain ⟨o, e, h', hr, hP⟩ := w
  exact ⟨h', plainq ho hp hs hf hb hl ⟨o, e, hr⟩, hP⟩
end
/-! ## Bytes of one's own that are appended to -/
/-- the numbers of blocks and groups lie below the next one -/
def GW (h : Heap) : Prop := ∀ j c, h.get j = some c → j < h.next ∧ c.grp < h.next
def OwnB (h : Heap) (x : AV) (s : List UInt8) : Prop :=
  (x = .nils ∧ s = []) ∨ (s ≠ [] ∧ ∃ id b, x = .slO id 0 1 s.length s.length false ∧ h.get id = some b ∧ b.cells = bytesCells s ∧ b.frz = false ∧ b.kind = .row ∧ b.el = 5 ∧ ∀ j c, h.get j = some c → c.grp = b.grp → c.el = 5)
/-- what is no row of bytes, and not block p, is as it was -/
def Kp (h h' : Heap) (p : Nat) : Prop := h.next ≤ h'.next ∧ ∀ j c, h.get j = some c → c.el ≠ 5 → j ≠ p → h'.get j = some c
theorem Kp.refl (h : Heap) (p : Nat) : Kp h h p := ⟨Nat.le_refl _, fun _ _ e _ _ => e⟩
theorem Kp.trans {h h' h'' : Heap} {p : Nat} (a : Kp h h' p) (b : Kp h' h'' p) : Kp h h'' p := ⟨Nat.le_trans a.1 b.1, fun j c e h1 h2 => b.2 j c (a.2 j c e h1 h2) h1 h2⟩
theorem GW.empty : GW Heap.empty := fun j c e => by rw [Heap.get_empty] at e; cases e
theorem GW.add {h : Heap} (W : GW h) {b : Blk} (hb : b.grp < h.next + 1) : GW (h.add b) := by
  intro j c e
  rw [Heap.get_add] at e
  rw [Heap.next_add]
  split at e
  · rename_i hj; cases e; exact ⟨by omega, hb⟩
  · have := W j c e; omega
theorem GW.new {h : Heap} (W : GW h) {el : Nat} {wh : Bool} {cs : List AV} : GW (h.new el wh cs) := W.add (Nat.lt_succ_self _)
theorem GW.set {h : Heap} (W : GW h) {id : Nat} {b c : Blk} (hb : h.get id = some b) (hc : c.grp = b.grp) : GW (h.set id c) := by
  intro j x e
  rw [get_set] at e
  rw [Heap.next_set]
  split at e
  · rename_i hj; cases e; subst hj; rw [hc]; exact W _ _ hb
  · exact W j x e
theorem bytesCells_app (s t : List UInt8) : bytesCells (s ++ t) = bytesCells s ++ bytesCells t := by rw [bytesCells_eq, bytesCells_eq, bytesCells_eq, List.map_append]
theorem bytesCells_len (s : List UInt8) : (bytesCells s).length = s.length := by rw [bytesCells_eq, List.length_map]
/-- a group's blocks may have changed, but for their group and their elements' type -/
structure Sim (g : Nat) (h h' : Heap) : Prop where
  next : h'.next = h.next
  back : ∀ j c', h'.get j = some c' → ∃ c, h.get j = some c ∧ c'.grp = c.grp ∧ c'.el = c.el
  other : ∀ j c, h.get j = some c → c.grp ≠ g → h'.get j = some c
theorem Sim.set {h : Heap} {id : Nat} {b c : Blk} (hb : h.get id = some b) (hg : c.grp = b.grp) (he : c.el = b.el) : Sim b.grp h (h.set id c) where
  next := rfl
  back := fun j x e => by
    rw [get_set] at e
    split at e
    · rename_i hj; cases e; subst hj; exact ⟨b, hb, hg, he⟩
    · exact ⟨x, e, rfl, rfl⟩
  other := fun j x e hne => by
    rw [get_set]
    split
    · rename_i hj; subst hj; rw [hb] at e; cases e; exact absurd rfl hne
    · exact e
theorem Sim.kill {h : Heap} {id g lo hi n : Nat} : Sim g h (killAll h id g lo hi n) where
  next := next_killAll ..
  back := fun j x e => by
    rw [get_killAll] at e
    split at e
    · cases hh : h.get j with
      | none => rw [hh] at e; cases e
      | some c =>
        rw [hh] at e
        cases e
        refine ⟨c, rfl, ?_, ?_⟩ <;> (unfold killB; split <;> rfl)
    · exact ⟨x, e, rfl, rfl⟩
  other := fun j x e hne => by
    rw [get_killAll]
    split
    · rw [e]; show some (killB g lo hi x) = some x; unfold killB; rw [if_neg (fun hh => hne hh.1)]
    · exact e
theorem Sim.trans {g : Nat} {a b c : Heap} (p : Sim g a b) (q : Sim g b c) : Sim g a c where
  next := q.next.trans p.next
  back := fun j x e => by
    obtain ⟨y, e1, g1, l1⟩ := q.back j x e
    obtain ⟨z, e2, g2, l2⟩ := p.back j y e1
    exact ⟨z, e2, g1.trans g2, l1.trans l2⟩
  other := fun j x e hne => q.other j x (p.other j x e hne) hne
theorem Sim.ks {h : Heap} {id id' lo hi n : Nat} {b c : Blk} (hb : h.get id = some b) (hg : c.grp = b.grp) (he : c.el = b.el) : Sim b.grp h (killAll (h.set id c) id' b.grp lo hi n) := (Sim.set hb hg he).trans Sim.kill
theorem Sim.gw {g : Nat} {h h' : Heap} (S : Sim g h h') (W : GW h) : GW h' := by
  intro j c e
  obtain ⟨c0, e0, hg, _⟩ := S.back j c e
  have := W j c0 e0
  rw [S.next, hg]; exact this
theorem cells_whole {cs : List AV} {n : Nat} (h : cs.length = n) : partN cs 0 n = some cs := by
  subst h
  unfold partN
  simp only [lenN_eq, takeN_eq, dropN_eq]
  rw [show Nat.ble (Nat.add 0 cs.length) cs.length = true from Nat.ble_eq_true_of_le (by show 0 + cs.length ≤ _; omega)]
  simp
theorem append_bytes {h : Heap} {x : AV} {s t : List UInt8} (W : GW h) (O : OwnB h x s) (hl : s.length + t.length ≤ 1000000000000) :
    ∃ x' h', builtinA (Cg K) h .append #[126, 9] [x, .str t] = some (x', h') ∧ OwnB h' x' (s ++ t) ∧ GW h' ∧ h.next ≤ h'.next ∧ ∀ j c, h.get j = some c → c.el ≠ 5 → h'.get j = some c := by
  have h0 : builtinA (Cg K) h .append #[126, 9] [x, .str t] = appendA h 5 1 1 x (.str t) := by kernel_rfl
  rw [h0]
  have hx : lenA (.str t) = some t.length := by show some (lenN t) = _; rw [lenN_eq]
  have hfs : firstA h 1 t.length (.str t) = some (bytesCells t) := by show some (bytesCells (takeN t t.length)) = _; rw [takeN_eq, List.take_length]
  unfold appendA
  rw [hx]
  simp only [hfs]
  have room : ∀ n, n ≤ 1000000000000 → roomOk n 1 = true := by
    intro n hn
    show (Nat.ble (Nat.mul n 1) 140737488355328 && Nat.ble n 4611686018427387904) = true
    rw [Bool.and_eq_true]
    exact ⟨Nat.ble_eq_true_of_le (show n * 1 ≤ _ by omega), Nat.ble_eq_true_of_le (by omega)⟩
  rcases O with ⟨rfl, rfl⟩ | ⟨hne, id, b, rfl, hb, hc, hf, hk, he, hs⟩
  · -- from nothing on
    simp only
    cases t with
    | nil => exact ⟨.nils, h, rfl, .inl ⟨rfl, rfl⟩, W, Nat.le_refl _, fun _ _ e _ => e⟩
    | cons a t =>
      rw [show Nat.beq (a :: t).length 0 = false from rfl, room _ (by simpa using hl)]
      refine ⟨_, _, rfl, .inr ⟨by simp, h.next, newBlk h.next 5 false (bytesCells (a :: t)), rfl, ?_, rfl, rfl, rfl, rfl, ?_⟩, W.new, Nat.le_succ _, ?_⟩
      · rw [get_new, if_pos rfl]
      · intro j c e hg
        rw [get_new] at e
        split at e
        · cases e; rfl
        · have := (W j c e).2; have hg : c.grp = h.next := hg; omega
      · intro j c e _
        rw [get_new, if_neg (by have := (W j c e).1; omega)]; exact e
  · have hlen : b.cells.length = s.length := by rw [hc, bytesCells_len]
    simp only
    unfold appendO
    rw [show Nat.beq 1 1 = true from rfl]
    simp only [Bool.not_true, cond_false]
    cases t with
    | nil =>
      rw [show Nat.ble (Nat.add s.length [].length) s.length = true from Nat.ble_eq_true_of_le (Nat.le_refl _)]
      simp only [cond_true]
      unfold storeAt
      rw [hb]
      simp only [hf, hk]
      rw [show Nat.ble (Nat.add (Nat.add 0 (Nat.mul s.length 1)) (lenN (bytesCells []))) (lenN b.cells) = true from Nat.ble_eq_true_of_le (by rw [lenN_eq b.cells, hlen]; show 0 + s.length * 1 + 0 ≤ _; omega)]
      have hset : ∀ o, setCells b.cells o (bytesCells []) = b.cells := fun o => setCells_nil _ _
      simp only [hset]
      -- a change of the block's count alone
      have fin : ∀ h' : Heap, Sim b.grp h h' → (∃ b', h'.get id = some b' ∧ b'.cells = b.cells ∧ b'.frz = false ∧ b'.kind = .row ∧ b'.grp = b.grp ∧ b'.el = 5) →
          OwnB h' (.slO id 0 1 (Nat.add s.length ([] : List UInt8).length) s.length false) (s ++ []) ∧ GW h' ∧ h.next ≤ h'.next ∧ ∀ j c, h.get j = some c → c.el ≠ 5 → h'.get j = some c := by
        intro h' S ⟨b', q1, q2, q3, q4, q5, q6⟩
        refine ⟨.inr ⟨by simpa using hne, id, b', by rw [List.append_nil]; rfl, q1, by rw [q2, hc, List.append_nil], q3, q4, q6, ?_⟩, S.gw W, by rw [S.next]; exact Nat.le_refl _, fun j c e h5 => S.other j c e (fun hg => h5 (hs j c e hg))⟩
        intro j c e hg
        obtain ⟨c0, e0, g0, l0⟩ := S.back j c e
        rw [l0]; exact hs j c0 e0 (by rw [← g0, hg, q5])
      cases hfk : b.forked with
      | false =>
        refine ⟨_, _, rfl, fin _ (Sim.set hb rfl rfl) ⟨{ cells := b.cells, grp := b.grp, base := b.base, forked := false, frz := false, ver := Nat.succ b.ver, el := b.el, whole := b.whole, kind := .row }, ?_, rfl, rfl, rfl, rfl, he⟩⟩
        rw [get_set, if_pos rfl]
      | true =>
        refine ⟨_, _, rfl, fin _ (Sim.ks hb rfl rfl) ⟨{ cells := b.cells, grp := b.grp, base := b.base, forked := true, frz := false, ver := Nat.succ b.ver, el := b.el, whole := b.whole, kind := .row }, ?_, rfl, rfl, rfl, rfl, he⟩⟩
        rw [get_killAll, if_neg (by simp), get_set, if_pos rfl]
    | cons a t =>
      rw [show Nat.ble (Nat.add s.length (a :: t).length) s.length = false by
        cases hh : Nat.ble (Nat.add s.length (a :: t).length) s.length with
        | false => rfl
        | true => have h1 : s.length + (t.length + 1) ≤ s.length := Nat.le_of_ble_eq_true hh; omega]
      simp only [cond_false]
      rw [room (Nat.add s.length (a :: t).length) hl]
      simp only [Bool.not_true, cond_false]
      have hcell : cellsAt h id 0 (Nat.mul s.length 1) = some b.cells := by
        unfold cellsAt
        rw [hb]
        simp only [hk]
        show (bif true then partN b.cells 0 (s.length * 1) else none) = _
        rw [cond_true, cells_whole (by omega)]
      rw [hcell]
      simp only [hb, hf, he, Bool.false_or]
      rw [show Nat.beq 5 5 = true from rfl]
      simp only [Bool.not_true, cond_false]
      have hap : b.cells ++ bytesCells (a :: t) = bytesCells (s ++ a :: t) := by rw [hc, bytesCells_app]
      rw [hap]
      unfold appendFork
      have S : Sim b.grp h (killAll (h.set id { b with forked := true, ver := Nat.succ b.ver }) h.next b.grp (Nat.add (Nat.add b.base 0) (Nat.mul s.length 1)) (Nat.add (Nat.add (Nat.add b.base 0) (Nat.mul s.length 1)) (Nat.mul (a :: t).length 1)) h.next) := Sim.ks hb rfl rfl
      have hgn : b.grp < h.next := (W id b hb).2
      refine ⟨_, _, rfl, .inr ⟨by simp, h.next, { cells := bytesCells (s ++ a :: t), grp := b.grp, base := Nat.add b.base 0, forked := true, frz := false, ver := 0, el := b.el, whole := false, kind := .row }, ?_, ?_, rfl, rfl, rfl, he, ?_⟩, ?_, ?_, ?_⟩
      · rw [List.length_append]; rfl
      · rw [Heap.get_add, if_pos S.next.symm]
      · intro j c e hg
        rw [Heap.get_add] at e
        split at e
        · cases e; exact he
        · obtain ⟨c0, e0, g0, l0⟩ := S.back j c e
          rw [l0]; exact hs j c0 e0 (by rw [← g0]; exact hg)
      · exact (S.gw W).add (by rw [S.next]; show b.grp < h.next + 1; omega)
      · rw [Heap.next_add, S.next]; exact Nat.le_succ _
      · intro j c e h5
        rw [Heap.get_add, if_neg (by rw [S.next]; have := (W j c e).1; omega)]
        exact S.other j c e fun hg => h5 (hs j c e hg)

/-! ## The writer of a line -/
/-- block p is a writer that has written s -/
def Bld (h : Heap) (p : Nat) (s : List UInt8) : Prop := GW h ∧ ∃ g ver a x, h.get p = some (bk g 130 true ver [a, x]) ∧ (a = .nilp ∨ a = .ptrO p 0) ∧ OwnB h x s
def Wr (h0 h : Heap) (p : Nat) (s : List UInt8) : Prop := GW h0 ∧ Kp h0 h p ∧ Bld h p s
theorem Wr.self {h0 h : Heap} {p : Nat} {s : List UInt8} (w : Wr h0 h p s) : Wr h h p s := ⟨w.2.2.1, Kp.refl _ _, w.2.2⟩
theorem Wr.back {h0 h h' : Heap} {p : Nat} {s t : List UInt8} (w : Wr h0 h p s) (w' : Wr h h' p t) : Wr h0 h' p t := ⟨w.1, w.2.1.trans w'.2.1, w'.2.2⟩
/-- a new block -/
theorem Wr.new {h0 h : Heap} {p : Nat} {s : List UInt8} (w : Wr h0 h p s) {el : Nat} {wh : Bool} {cs : List AV} : Wr h0 (h.new el wh cs) p s := by
  obtain ⟨w0, k, W, g, ver, a, x, hp, ha, ho⟩ := w
  have old : ∀ j c, h.get j = some c → (h.new el wh cs).get j = some c := fun j c e => by rw [get_new, if_neg (by have := (W j c e).1; omega)]; exact e
  refine ⟨w0, k.trans ⟨Nat.le_succ _, fun j c e _ _ => old j c e⟩, W.new, g, ver, a, x, old _ _ hp, ha, ?_⟩
  rcases ho with ho | ⟨hne, id, b, q1, q2, q3, q4, q5, q6, q7⟩
  · exact .inl ho
  · refine .inr ⟨hne, id, b, q1, old _ _ q2, q3, q4, q5, q6, ?_⟩
    intro j c e hg
    rw [get_new] at e
    split at e
    · cases e; have := (W _ _ q2).2; have hg : h.next = b.grp := hg; omega
    · exact q7 j c e hg
/-- a block of one's own, that is no row of bytes and not the writer's, is changed -/
theorem Wr.set {h0 h : Heap} {p q g el ver ver' : Nat} {wh : Bool} {cs cs' : List AV} {s : List UInt8} (w : Wr h0 h p s) (hq : h.get q = some (bk g el wh ver cs)) (hn : h0.next ≤ q) (hp0 : p < h0.next) (h5 : el ≠ 5) : Wr h0 (h.set q (bk g el wh ver' cs')) p s := by
  obtain ⟨w0, k, W, g1, ver1, a, x, hp, ha, ho⟩ := w
  have hqp : q ≠ p := by omega
  refine ⟨w0, ⟨k.1, fun j c e c5 cp => gso (by have := (w0 j c e).1; omega) (k.2 j c e c5 cp)⟩, W.set hq rfl, g1, ver1, a, x, gso (Ne.symm hqp) hp, ha, ?_⟩
  · rcases ho with ho | ⟨hne, id, b, q1, q2, q3, q4, q5, q6, q7⟩
    · exact .inl ho
    · have hid : id ≠ q := by intro e; subst e; rw [hq] at q2; cases q2; exact h5 q6
      refine .inr ⟨hne, id, b, q1, gso hid q2, q3, q4, q5, q6, ?_⟩
      intro j c e hg
      rw [get_set] at e
      split at e
      · rename_i hj; subst hj; cases e
        have h1 : el = 5 := q7 _ _ hq hg
        exact absurd h1 h5
      · exact q7 j c e hg
theorem Wr.cast {h0 h : Heap} {p : Nat} {s t : List UInt8} (w : Wr h0 h p s) (e : s = t) : Wr h0 h p t := e ▸ w
theorem Wr.lt {h0 h : Heap} {p : Nat} {s : List UInt8} (w : Wr h0 h p s) : p < h.next := by
  obtain ⟨_, _, W, g, ver, a, x, hp, _⟩ := w
  exact (W _ _ hp).1
theorem Wr.le {h0 h : Heap} {p : Nat} {s : List UInt8} (w : Wr h0 h p s) : h0.next ≤ h.next := w.2.1.1
theorem Wr.kept {h0 h : Heap} {p q : Nat} {s : List UInt8} {b : Blk} (w : Wr h0 h p s) (hq : h0.get q = some b) (h5 : b.el ≠ 5) (hne : q ≠ p) : h.get q = some b := w.2.1.2 q b hq h5 hne
theorem OwnB.set {h : Heap} {x : AV} {s : List UInt8} {q g el ver ver' : Nat} {wh : Bool} {cs cs' : List AV} (O : OwnB h x s) (hq : h.get q = some (bk g el wh ver cs)) (h5 : el ≠ 5) : OwnB (h.set q (bk g el wh ver' cs')) x s := by
  rcases O with ho | ⟨hne, id, b, q1, q2, q3, q4, q5, q6, q7⟩
  · exact .inl ho
  · have hid : id ≠ q := by intro e; subst e; rw [hq] at q2; cases q2; exact h5 q6
    refine .inr ⟨hne, id, b, q1, gso hid q2, q3, q4, q5, q6, ?_⟩
    intro j c e hg
    rw [get_set] at e
    split at e
    · rename_i hj; subst hj; cases e
      have h1 : el = 5 := q7 _ _ hq hg
      exact absurd h1 h5
    · exact q7 j c e hg
theorem OwnB.plain {h : Heap} {x : AV} {s : List UInt8} (O : OwnB h x s) : plainA x = true ∧ x.cells = [x] := by
  rcases O with ⟨rfl, _⟩ | ⟨_, id, b, rfl, _⟩ <;> exact ⟨rfl, rfl⟩
theorem store_b {h : Heap} {p g ver : Nat} {a x y : AV} (hg : h.get p = some (bk g 130 true ver [a, x])) (hp : plainA y = true ∧ y.cells = [y]) : opStore (Cg K) h 126 (.ptrO p 1) y = some (.tup [], h.set p (bk g 130 true (Nat.succ ver) [a, y])) := by
  refine store_k hg ?_ (by rw [hp.2]; rfl)
  rw [hp.1, hp.2]
  kernel_rfl
/-- what has been written is written -/
theorem wr_fin {h0 h h1 h2 : Heap} {p g ver ver' : Nat} {a x x' : AV} {s' : List UInt8} (w0 : GW h0) (k : Kp h0 h p) (n1 : h1.next = h.next) (k1 : ∀ j c, h.get j = some c → j ≠ p → h1.get j = some c) (W2 : GW h2) (n2 : h1.next ≤ h2.next)
    (k2 : ∀ j c, h1.get j = some c → c.el ≠ 5 → h2.get j = some c) (hg : h2.get p = some (bk g 130 true ver [a, x])) (ha : a = .nilp ∨ a = .ptrO p 0) (O : OwnB h2 x' s') : Wr h0 (h2.set p (bk g 130 true ver' [a, x'])) p s' := by
  refine ⟨w0, ⟨?_, fun j c e h5 hj => gso hj (k2 j c (k1 j c (k.2 j c e h5 hj) hj) h5)⟩, W2.set hg rfl, g, ver', a, x', gss, ha, O.set hg (by decide)⟩
  have := k.1
  show h0.next ≤ h2.next
  omega
theorem conv_125_205 {h : Heap} {p g ver : Nat} {a x : AV} (hg : h.get p = some (bk g 130 true ver [a, x])) : opConvert (Cg K) h 125 205 (.ptrO p 0) = some (.ptrO p 0, h) := by
  have e : opConvert (Cg K) h 125 205 (.ptrO p 0) = (match h.get p with | some b => bif b.kind.isRow && (Nat.ble 1 (lenN b.cells) && true && true) then some (.ptrO p 0, h) else none | none => none) := by kernel_rfl
  rw [e, hg]; rfl
theorem conv_205_125 {h : Heap} {p g ver : Nat} {a x : AV} (hg : h.get p = some (bk g 130 true ver [a, x])) : opConvert (Cg K) h 205 125 (.ptrO p 0) = some (.ptrO p 0, h) := by
  have e : opConvert (Cg K) h 205 125 (.ptrO p 0) = (match h.get p with | some b => bif b.kind.isRow && (b.whole && true && liesAt Tryz.prog Tryz.prog.depth b.el (lenN b.cells / Tryz.prog.cellsOf b.el) 0 128 1) then some (.ptrO p 0, h) else none | none => none) := by kernel_rfl
  have l : liesAt Tryz.prog Tryz.prog.depth 130 (2 / Tryz.prog.cellsOf 130) 0 128 1 = true := by kernel_rfl
  rw [e, hg]
  show (bif true && (true && true && liesAt Tryz.prog Tryz.prog.depth 130 (2 / Tryz.prog.cellsOf 130) 0 128 1) then some (AV.ptrO p 0, h) else none) = _
  rw [l]; rfl
end
end Go.Abs
namespace Go.Abs
noncomputable section
open Go Go.Proofs
variable {K : Nat}
theorem noescape_c {n : Nat} (hn : 1 ≤ n) {p : Nat} (h : Heap) : (fns (Cg K) n).call 111 [.ptrO p 0] h none = some (.val (.ptrO p 0) h none) := by
  obtain ⟨m, rfl⟩ : ∃ m, n = m + 1 := ⟨n - 1, by omega⟩
  kernel_rfl
theorem ptr_same {p : Nat} (b : Bool) (hp : Heap) : keep hp (binA (Cg K) 125 b .neq (.ptrO p 0) (.ptrO p 0)) = some (.bool false, hp) := by
  have e : eqPtr (.ptrO p 0) (.ptrO p 0) = some true := by
    show (bif Nat.beq p p then some (Nat.beq 0 0) else none) = _
    rw [Nat.beq_refl]; rfl
  have e2 : binA (Cg K) 125 b .neq (.ptrO p 0) (.ptrO p 0) = (match eqPtr (.ptrO p 0) (.ptrO p 0) with | some b => some (AV.bool (!b)) | none => none) := by kernel_rfl
  rw [e2, e]; rfl
set_option maxRecDepth 20000 in
theorem copyCheck0_c {n : Nat}  (hn : 2 ≤ n) {p g ver : Nat} {x : AV}  {h : Heap} (hg : h.get p = some (bk g 130 true ver [.nilp, x])) : (fns (Cg K) n).call 86 [.ptrO p 0] h none = some (.val (.tup []) (h.set p (bk g 130 true (Nat.succ ver) [.ptrO p 0, x])) none) := by
  obtain ⟨m, rfl⟩ : ∃ m, n = m + 1 := ⟨n - 1, by omega⟩
  refine plainq (C := Cg K) (F := fns (Cg K) m) (fn := Tryz.f86) (c := bodyOf Tryz.f86) (by kernel_rfl) (by kernel_rfl) (by kernel_rfl) (by kernel_rfl) (by kernel_rfl) (by kernel_rfl) ?_
  refine W.seq ?_
  refine W.region ?_
  refine WO.adv 3 (by kernel_rfl) ?_
  refine WO.opk (y := keep h (opLoad (Cg K) h 125 (.ptrO p 0))) (x := .nilp) (h' := h) (load_k hg (by kernel_rfl)) (by kernel_rfl) ?_
  refine WO.fin (by kernel_rfl) ?_
  refine W.cond true (by kernel_rfl) (fun _ => ?_) (fun h => by cases h)
  refine W.region ?_
  refine WO.adv 2 (by kernel_rfl) ?_
  refine WO.opk (y := opConvert (Cg K) h 125 205 (.ptrO p 0)) (x := .ptrO p 0) (h' := h) (conv_125_205 hg) (by kernel_rfl) ?_
  refine WO.callp (by kernel_rfl) (noescape_c (n := m) (p := p) (by omega) _) ?_
  refine WO.opk (y := opConvert (Cg K) h 205 125 (.ptrO p 0)) (x := .ptrO p 0) (h' := h) (conv_205_125 hg) (by kernel_rfl) ?_
  refine WO.adv 2 (by kernel_rfl) ?_
  refine WO.opk (y := opStore (Cg K) h 125 (.ptrO p 0) (.ptrO p 0)) (x := .tup []) (h' := (h.set p (bk g 130 true (Nat.succ ver) [.ptrO p 0, x]))) (store_k hg (by kernel_rfl) (by kernel_rfl)) (by kernel_rfl) ?_
  refine WO.nil ?_
  exact RetN.kn (v' := .tup []) (h' := (h.set p (bk g 130 true (Nat.succ ver) [.ptrO p 0, x]))) (by rfl) (by rfl) (by kernel_rfl) (by kernel_rfl) (by kernel_rfl)

set_option maxRecDepth 20000 in
theorem copyCheck1_c {n : Nat}  (hn : 2 ≤ n) {p g ver : Nat} {x : AV}  {h : Heap} (hg : h.get p = some (bk g 130 true ver [.ptrO p 0, x])) : (fns (Cg K) n).call 86 [.ptrO p 0] h none = some (.val (.tup []) h none) := by
  obtain ⟨m, rfl⟩ : ∃ m, n = m + 1 := ⟨n - 1, by omega⟩
  refine plainq (C := Cg K) (F := fns (Cg K) m) (fn := Tryz.f86) (c := bodyOf Tryz.f86) (by kernel_rfl) (by kernel_rfl) (by kernel_rfl) (by kernel_rfl) (by kernel_rfl) (by kernel_rfl) ?_
  refine W.seq ?_
  refine W.region ?_
  refine WO.adv 3 (by kernel_rfl) ?_
  refine WO.opk (y := keep h (opLoad (Cg K) h 125 (.ptrO p 0))) (x := .ptrO p 0) (h' := h) (load_k hg (by kernel_rfl)) (by kernel_rfl) ?_
  refine WO.fin (by kernel_rfl) ?_
  refine W.cond false (by kernel_rfl) (fun h => by cases h) (fun _ => ?_)
  refine W.seq ?_
  refine W.region ?_
  refine WO.adv 3 (by kernel_rfl) ?_
  refine WO.opk (y := keep h (opLoad (Cg K) h 125 (.ptrO p 0))) (x := .ptrO p 0) (h' := h) (load_k hg (by kernel_rfl)) (by kernel_rfl) ?_
  refine WO.adv 1 (by kernel_rfl) ?_
  refine WO.opc (ptr_same (K := K) (p := p) false) (by kernel_rfl) ?_
  refine WO.nil ?_
  refine W.cond false (by kernel_rfl) (fun h => by cases h) (fun _ => ?_)
  refine W.skip ?_
  exact RetN.kn (v' := .tup []) (h' := h) (by rfl) (by rfl) (by kernel_rfl) (by kernel_rfl) (by kernel_rfl)

set_option maxRecDepth 20000 in
theorem writeString0_c {n : Nat}  (hn : 3 ≤ n) {p g ver : Nat} {x : AV} {h0 h : Heap} {s t : List UInt8} (w0 : GW h0) (k : Kp h0 h p) (hW : GW h) (O : OwnB h x s) (hl : s.length + t.length ≤ 1000000000000) (hg : h.get p = some (bk g 130 true ver [.nilp, x]))  : ∃ h', (fns (Cg K) n).call 63 [.ptrO p 0, .str t] h none = some (.val (.tup [.int .i64 ((lenN t : Nat) : Int), .nili]) h' none) ∧ (fun h' => Wr h0 h' p (s ++ t)) h' := by
  obtain ⟨m, rfl⟩ : ∃ m, n = m + 1 := ⟨n - 1, by omega⟩
  refine plainx (C := Cg K) (F := fns (Cg K) m) (fn := Tryz.f63) (c := bodyOf Tryz.f63) (by kernel_rfl) (by kernel_rfl) (by kernel_rfl) (by kernel_rfl) (by kernel_rfl) (by kernel_rfl) ?_
  refine W.seq ?_
  refine W.region ?_
  refine WO.fin (by kernel_rfl) ?_
  refine W.seq ?_
  refine W.region ?_
  refine WO.adv 1 (by kernel_rfl) ?_
  refine WO.callh (by kernel_rfl) (by kernel_rfl) (copyCheck0_c (n := m) (by omega) hg) ?_
  refine WO.nil ?_
  refine W.seq ?_
  refine W.region ?_
  refine WO.adv 4 (by kernel_rfl) ?_
  refine WO.opk (y := keep (h.set p (bk g 130 true (Nat.succ ver) [.ptrO p 0, x])) (opLoad (Cg K) (h.set p (bk g 130 true (Nat.succ ver) [.ptrO p 0, x])) 126 (.ptrO p 1))) (x := x) (h' := (h.set p (bk g 130 true (Nat.succ ver) [.ptrO p 0, x]))) (load_k gss (by kernel_rfl)) (by kernel_rfl) ?_
  refine WO.adv 1 (by kernel_rfl) ?_
  obtain ⟨x2, h2, he2, O2, hW2, n2, k2⟩ := append_bytes (K := K) (h := (h.set p (bk g 130 true (Nat.succ ver) [.ptrO p 0, x]))) (x := x) (s := s) (t := t) (GW.set hW hg rfl) (OwnB.set O hg (by decide)) hl
  have hg2 : h2.get p = some (bk g 130 true (Nat.succ ver) [.ptrO p 0, x]) := k2 p _ gss (show 130 ≠ 5 by decide)
  refine WO.opk he2 (by kernel_rfl) ?_
  refine WO.adv 2 (by kernel_rfl) ?_
  refine WO.opk (y := opStore (Cg K) h2 126 (.ptrO p 1) x2) (x := .tup []) (h' := (h2.set p (bk g 130 true (Nat.succ (Nat.succ ver)) [.ptrO p 0, x2]))) (store_b hg2 O2.plain) (by kernel_rfl) ?_
  refine WO.nil ?_
  refine W.seq ?_
  refine W.region ?_
  refine WO.fin (by kernel_rfl) ?_
  refine W.ret ?_
  exact RetX.k (h' := (h2.set p (bk g 130 true (Nat.succ (Nat.succ ver)) [.ptrO p 0, x2]))) (wr_fin (h := h) (h1 := h.set p (bk g 130 true (Nat.succ ver) [.ptrO p 0, x])) w0 k rfl (fun j c e hj => gso hj e) hW2 n2 k2 hg2 (.inr rfl) O2) (v' := .tup [.int .i64 ((lenN t : Nat) : Int), .nili]) (by rfl) (by kernel_rfl) (by kernel_rfl) (by kernel_rfl)

set_option maxRecDepth 20000 in
theorem writeString1_c {n : Nat}  (hn : 3 ≤ n) {p g ver : Nat} {x : AV} {h0 h : Heap} {s t : List UInt8} (w0 : GW h0) (k : Kp h0 h p) (hW : GW h) (O : OwnB h x s) (hl : s.length + t.length ≤ 1000000000000) (hg : h.get p = some (bk g 130 true ver [.ptrO p 0, x]))  : ∃ h', (fns (Cg K) n).call 63 [.ptrO p 0, .str t] h none = some (.val (.tup [.int .i64 ((lenN t : Nat) : Int), .nili]) h' none) ∧ (fun h' => Wr h0 h' p (s ++ t)) h' := by
  obtain ⟨m, rfl⟩ : ∃ m, n = m + 1 := ⟨n - 1, by omega⟩
  refine plainx (C := Cg K) (F := fns (Cg K) m) (fn := Tryz.f63) (c := bodyOf Tryz.f63) (by kernel_rfl) (by kernel_rfl) (by kernel_rfl) (by kernel_rfl) (by kernel_rfl) (by kernel_rfl) ?_
  refine W.seq ?_
  refine W.region ?_
  refine WO.fin (by kernel_rfl) ?_
  refine W.seq ?_
  refine W.region ?_
  refine WO.adv 1 (by kernel_rfl) ?_
  refine WO.callp (by kernel_rfl) (copyCheck1_c (n := m) (by omega) hg) ?_
  refine WO.nil ?_
  refine W.seq ?_
  refine W.region ?_
  refine WO.adv 4 (by kernel_rfl) ?_
  refine WO.opk (y := keep h (opLoad (Cg K) h 126 (.ptrO p 1))) (x := x) (h' := h) (load_k hg (by kernel_rfl)) (by kernel_rfl) ?_
  refine WO.adv 1 (by kernel_rfl) ?_
  obtain ⟨x2, h2, he2, O2, hW2, n2, k2⟩ := append_bytes (K := K) (h := h) (x := x) (s := s) (t := t) hW O hl
  have hg2 : h2.get p = some (bk g 130 true ver [.ptrO p 0, x]) := k2 p _ hg (show 130 ≠ 5 by decide)
  refine WO.opk he2 (by kernel_rfl) ?_
  refine WO.adv 2 (by kernel_rfl) ?_
  refine WO.opk (y := opStore (Cg K) h2 126 (.ptrO p 1) x2) (x := .tup []) (h' := (h2.set p (bk g 130 true (Nat.succ ver) [.ptrO p 0, x2]))) (store_b hg2 O2.plain) (by kernel_rfl) ?_
  refine WO.nil ?_
  refine W.seq ?_
  refine W.region ?_
  refine WO.fin (by kernel_rfl) ?_
  refine W.ret ?_
  exact RetX.k (h' := (h2.set p (bk g 130 true (Nat.succ ver) [.ptrO p 0, x2]))) (wr_fin (h := h) (h1 := h) w0 k rfl (fun j c e _ => e) hW2 n2 k2 hg2 (.inr rfl) O2) (v' := .tup [.int .i64 ((lenN t : Nat) : Int), .nili]) (by rfl) (by kernel_rfl) (by kernel_rfl) (by kernel_rfl)

theorem writeString_c {n : Nat} (hn : 3 ≤ n) {p : Nat} {h0 h : Heap} {s t : List UInt8} (w : Wr h0 h p s) (hl : s.length + t.length ≤ 1000000000000) : ∃ h', (fns (Cg K) n).call 63 [.ptrO p 0, .str t] h none = some (.val (.tup [.int .i64 ((lenN t : Nat) : Int), .nili]) h' none) ∧ Wr h0 h' p (s ++ t) := by
  obtain ⟨w0, k, W, g, ver, a, x, hg, ha, O⟩ := w
  rcases ha with rfl | rfl
  · exact writeString0_c hn w0 k W O hl hg
  · exact writeString1_c hn w0 k W O hl hg
end
end Go.Abs
