/- A part of the proofs of the laws of logs: see the last text of this claim. -/
import Derived.Test.YtlehhkleemaloaaGreatDoorB1
namespace Go.Abs
noncomputable section
open Go Go.Proofs
variable {K : Nat}
set_option maxRecDepth 20000 in
theorem eventErrM_c {n : Nat} {d : Nat} (hn : d + 6 ≤ n) (e : Ev) (hd : e.val.dep ≤ d) (hv : e.val.ok) (hK : big ≤ K)  (h : Heap) : (fns (Cg K) n).call 32 [.agg e.elv] h none = some (.val (.int .i64 (evErrM e)) h none) := by
  obtain ⟨m, rfl⟩ : ∃ m, n = m + 1 := ⟨n - 1, by omega⟩
  refine pureq (C := Cg K) (F := fns (Cg K) m) (fn := Tryz.f32) (c := bodyOf Tryz.f32) (by kernel_rfl) (by kernel_rfl) (by kernel_rfl) (noL (aggElv _) rfl) (by kernel_rfl) (by kernel_rfl) (by kernel_rfl) ?_ h
  refine W.seq ?_
  refine W.region ?_
  refine WO.fin (by kernel_rfl) ?_
  refine W.seq ?_
  refine W.seq ?_
  refine W.region ?_
  refine WO.adv 4 (by kernel_rfl) ?_
  refine splitB (decide (e.comp < (-1))) (fun hb1 => ?_) (fun hb1 => ?_)
  · refine WO.sub 6 hb1 (by kernel_rfl) ?_
    refine WO.sub 7 hb1 (by kernel_rfl) ?_
    refine WO.fin (by kernel_rfl) ?_
    refine W.cond true (by kernel_rfl) (fun _ => ?_) (fun h => by cases h)
    refine W.seq ?_
    refine W.region ?_
    refine WO.fin (by kernel_rfl) ?_
    refine W.ret ?_
    exact RetQ.k (v' := .int .i64 3) (by simp only [evErrM, hb1, Bool.false_or, Bool.or_false, Bool.true_or, Bool.or_true, Bool.true_and, Bool.false_and, cond_true, cond_false]) (by kernel_rfl) (by kernel_rfl)
  · refine WO.sub 6 hb1 (by kernel_rfl) ?_
    refine WO.sub 7 hb1 (by kernel_rfl) ?_
    refine WO.adv 5 (by kernel_rfl) ?_
    refine splitB (decide (e.comp ≥ 6)) (fun hb2 => ?_) (fun hb2 => ?_)
    · refine WO.sub 10 hb2 (by kernel_rfl) ?_
      refine WO.sub 11 hb2 (by kernel_rfl) ?_
      refine WO.sub 12 hb2 (by kernel_rfl) ?_
      refine WO.fin (by kernel_rfl) ?_
      refine W.cond true (by kernel_rfl) (fun _ => ?_) (fun h => by cases h)
      refine W.seq ?_
      refine W.region ?_
      refine WO.fin (by kernel_rfl) ?_
      refine W.ret ?_
      exact RetQ.k (v' := .int .i64 3) (by simp only [evErrM, hb1, hb2, Bool.false_or, Bool.or_false, Bool.true_or, Bool.or_true, Bool.true_and, Bool.false_and, cond_true, cond_false]) (by kernel_rfl) (by kernel_rfl)
    · refine WO.sub 10 hb2 (by kernel_rfl) ?_
      refine WO.sub 11 hb2 (by kernel_rfl) ?_
      refine WO.sub 12 hb2 (by kernel_rfl) ?_
      refine WO.adv 2 (by kernel_rfl) ?_
      refine WO.callp (by kernel_rfl) (fits_c (n := m) (by omega) e.other _) ?_
      refine WO.fin (by kernel_rfl) ?_
      refine W.cond (!(isNum e.other)) (by kernel_rfl) (fun hb3 => ?_) (fun hb3 => ?_)
      · refine W.sub 16 hb3 (by kernel_rfl) ?_
        refine W.sub 17 hb3 (by kernel_rfl) ?_
        refine W.seq ?_
        refine W.region ?_
        refine WO.fin (by kernel_rfl) ?_
        refine W.ret ?_
        exact RetQ.k (v' := .int .i64 3) (by simp only [evErrM, hb1, hb2, hb3, Bool.false_or, Bool.or_false, Bool.true_or, Bool.or_true, Bool.true_and, Bool.false_and, cond_true, cond_false]) (by kernel_rfl) (by kernel_rfl)
      · refine W.sub 16 hb3 (by kernel_rfl) ?_
        refine W.sub 17 hb3 (by kernel_rfl) ?_
        refine W.skip ?_
        refine W.seq ?_
        refine W.seq ?_
        refine W.region ?_
        refine WO.adv 4 (by kernel_rfl) ?_
        refine splitB (decide (e.kind < 0)) (fun hb4 => ?_) (fun hb4 => ?_)
        · refine WO.sub 20 hb4 (by kernel_rfl) ?_
          refine WO.sub 21 hb4 (by kernel_rfl) ?_
          refine WO.fin (by kernel_rfl) ?_
          refine W.cond true (by kernel_rfl) (fun _ => ?_) (fun h => by cases h)
          refine W.seq ?_
          refine W.region ?_
          refine WO.fin (by kernel_rfl) ?_
          refine W.ret ?_
          exact RetQ.k (v' := .int .i64 4) (by simp only [evErrM, hb1, hb2, hb3, hb4, Bool.false_or, Bool.or_false, Bool.true_or, Bool.or_true, Bool.true_and, Bool.false_and, cond_true, cond_false]) (by kernel_rfl) (by kernel_rfl)
        · refine WO.sub 20 hb4 (by kernel_rfl) ?_
          refine WO.sub 21 hb4 (by kernel_rfl) ?_
          refine WO.fin (by kernel_rfl) ?_
          refine W.cond (decide (e.kind ≥ 11)) (by kernel_rfl) (fun hb5 => ?_) (fun hb5 => ?_)
          · refine W.sub 24 hb5 (by kernel_rfl) ?_
            refine W.sub 25 hb5 (by kernel_rfl) ?_
            refine W.seq ?_
            refine W.region ?_
            refine WO.fin (by kernel_rfl) ?_
            refine W.ret ?_
            exact RetQ.k (v' := .int .i64 4) (by simp only [evErrM, hb1, hb2, hb3, hb4, hb5, Bool.false_or, Bool.or_false, Bool.true_or, Bool.or_true, Bool.true_and, Bool.false_and, cond_true, cond_false]) (by kernel_rfl) (by kernel_rfl)
          · refine W.sub 24 hb5 (by kernel_rfl) ?_
            refine W.sub 25 hb5 (by kernel_rfl) ?_
            refine W.skip ?_
            refine W.seq ?_
            refine W.region ?_
            refine WO.fin (by kernel_rfl) ?_
            refine W.seq ?_
            refine W.region ?_
            refine WO.adv 3 (by kernel_rfl) ?_
            refine WO.callh (by kernel_rfl) rfl (measure_c hK d e.val hd hv m (by omega) 8 0 false false (i := 1) (g := 1) (ver := 0)  (by kernel_rfl)) ?_
            refine WO.nil ?_
            refine W.seq ?_
            refine W.drawn2 (by kernel_rfl) ?_
            refine WE.adv (j' := 5) 5 (by kernel_rfl) (by kernel_rfl) ?_
            refine splitB (decide (((lenN e.text : Nat) : Int) ≤ 200)) (fun hb6 => ?_) (fun hb6 => ?_)
            · refine WE.sub 35 hb6 (by kernel_rfl) ?_
              refine WE.sub 36 hb6 (by kernel_rfl) ?_
              refine WE.adv (j' := 11) 6 (by kernel_rfl) (by kernel_rfl) ?_
              refine splitB (decide (((lenN e.name : Nat) : Int) ≤ 200)) (fun hb7 => ?_) (fun hb7 => ?_)
              · refine WE.sub 40 hb7 (by kernel_rfl) ?_
                refine WE.sub 41 hb7 (by kernel_rfl) ?_
                refine WE.sub 42 hb7 (by kernel_rfl) ?_
                refine WE.adv (j' := 17) 6 (by kernel_rfl) (by kernel_rfl) ?_
                refine WE.callp (by kernel_rfl) (by kernel_rfl) (unless_c (n := m) (by omega) (!((measV e.val 8 (0, false, false)).2.1)) 2 _) ?_
                refine WE.adv (j' := 23) 5 (by kernel_rfl) (by kernel_rfl) ?_
                refine WE.callp (by kernel_rfl) (by kernel_rfl) (unless_c (n := m) (by omega) (!((measV e.val 8 (0, false, false)).2.2)) 3 _) ?_
                refine WE.adv (j' := 25) 1 (by kernel_rfl) (by kernel_rfl) ?_
                refine WE.callh (by kernel_rfl) (by kernel_rfl) rfl (or_c (n := m) (i := 2) (g := 2) (ver := 0)  (by omega) (bif (!((measV e.val 8 (0, false, false)).2.1)) then 0 else 2) (bif (!((measV e.val 8 (0, false, false)).2.2)) then 0 else 3) hK (by kernel_rfl)) ?_
                refine WE.fin (by kernel_rfl) ?_
                refine W.ret ?_
                exact RetQ.k (v' := .int .i64 (orI (bif (!((measV e.val 8 (0, false, false)).2.1)) then 0 else 2) (bif (!((measV e.val 8 (0, false, false)).2.2)) then 0 else 3))) (by simp only [evErrM, hb1, hb2, hb3, hb4, hb5, hb6, hb7, Bool.false_or, Bool.or_false, Bool.true_or, Bool.or_true, Bool.true_and, Bool.false_and, cond_true, cond_false]) (by kernel_rfl) (by kernel_rfl)
              · refine WE.sub 40 hb7 (by kernel_rfl) ?_
                refine WE.sub 41 hb7 (by kernel_rfl) ?_
                refine WE.sub 42 hb7 (by kernel_rfl) ?_
                refine WE.adv (j' := 17) 6 (by kernel_rfl) (by kernel_rfl) ?_
                refine WE.callp (by kernel_rfl) (by kernel_rfl) (unless_c (n := m) (by omega) false 2 _) ?_
                refine WE.adv (j' := 23) 5 (by kernel_rfl) (by kernel_rfl) ?_
                refine WE.callp (by kernel_rfl) (by kernel_rfl) (unless_c (n := m) (by omega) (!((measV e.val 8 (0, false, false)).2.2)) 3 _) ?_
                refine WE.adv (j' := 25) 1 (by kernel_rfl) (by kernel_rfl) ?_
                refine WE.callh (by kernel_rfl) (by kernel_rfl) rfl (or_c (n := m) (i := 2) (g := 2) (ver := 0)  (by omega) 2 (bif (!((measV e.val 8 (0, false, false)).2.2)) then 0 else 3) hK (by kernel_rfl)) ?_
                refine WE.fin (by kernel_rfl) ?_
                refine W.ret ?_
                exact RetQ.k (v' := .int .i64 (orI 2 (bif (!((measV e.val 8 (0, false, false)).2.2)) then 0 else 3))) (by simp only [evErrM, hb1, hb2, hb3, hb4, hb5, hb6, hb7, Bool.false_or, Bool.or_false, Bool.true_or, Bool.or_true, Bool.true_and, Bool.false_and, cond_true, cond_false]) (by kernel_rfl) (by kernel_rfl)
            · refine WE.sub 35 hb6 (by kernel_rfl) ?_
              refine WE.sub 36 hb6 (by kernel_rfl) ?_
              refine WE.adv (j' := 17) 12 (by kernel_rfl) (by kernel_rfl) ?_
              refine WE.callp (by kernel_rfl) (by kernel_rfl) (unless_c (n := m) (by omega) false 2 _) ?_
              refine WE.adv (j' := 23) 5 (by kernel_rfl) (by kernel_rfl) ?_
              refine WE.callp (by kernel_rfl) (by kernel_rfl) (unless_c (n := m) (by omega) (!((measV e.val 8 (0, false, false)).2.2)) 3 _) ?_
              refine WE.adv (j' := 25) 1 (by kernel_rfl) (by kernel_rfl) ?_
              refine WE.callh (by kernel_rfl) (by kernel_rfl) rfl (or_c (n := m) (i := 2) (g := 2) (ver := 0)  (by omega) 2 (bif (!((measV e.val 8 (0, false, false)).2.2)) then 0 else 3) hK (by kernel_rfl)) ?_
              refine WE.fin (by kernel_rfl) ?_
              refine W.ret ?_
              exact RetQ.k (v' := .int .i64 (orI 2 (bif (!((measV e.val 8 (0, false, false)).2.2)) then 0 else 3))) (by simp only [evErrM, hb1, hb2, hb3, hb4, hb5, hb6, Bool.false_or, Bool.or_false, Bool.true_or, Bool.or_true, Bool.true_and, Bool.false_and, cond_true, cond_false]) (by kernel_rfl) (by kernel_rfl)

theorem logsEventErr_c {n : Nat} {d : Nat} (hn : d + 6 ≤ n) (e : Ev) (hd : e.val.dep ≤ d) (hv : e.val.ok) (hK : big ≤ K) (h : Heap) : (fns (Cg K) n).call 32 [.agg e.elv] h none = some (.val (.int .i64 (evErr e)) h none) := by
  have := eventErrM_c hn e hd hv hK h
  rwa [evErrM_eq] at this
end
end Go.Abs
namespace Go.Abs
noncomputable section
open Go
/-! ## A slice of one's own that is appended to -/
/-- v is n elements of one's own (of so many cells each): these cells; its block lies below bd -/
def OwnSl (h : Heap) (v : AV) (e size : Nat) (cs : List AV) (n bd : Nat) : Prop :=
  bd ≤ h.next ∧ ((v = .nils ∧ n = 0 ∧ cs = []) ∨ ∃ id b, v = .slO id 0 size n n false ∧ id < bd ∧ h.get id = some b ∧ b.cells = cs ∧ b.frz = false ∧ b.kind = .row ∧ b.el = e ∧ cs.length = n * size ∧ 0 < n)
def St.v (s : St) (k : Nat) : AV := match s.tm.get k with | some v => v | none => .dead

section
variable {h h' : Heap} {v x : AV} {e size n bd bytes : Nat} {cs nw : List AV} {s : St}
theorem OwnSl.nil (h : Heap) (e size : Nat) : OwnSl h .nils e size [] 0 h.next := ⟨Nat.le_refl _, .inl ⟨rfl, rfl, rfl⟩⟩
theorem OwnSl.new {el : Nat} {wh : Bool} {c : List AV} (O : OwnSl h v e size cs n bd) : OwnSl (h.new el wh c) v e size cs n bd := by
  obtain ⟨hb, O⟩ := O
  refine ⟨Nat.le_succ_of_le hb, ?_⟩
  rcases O with O | ⟨id, b, h1, h2, h3, h4⟩
  · exact .inl O
  · exact .inr ⟨id, b, h1, h2, by unfold Heap.new; rw [Heap.get_add, if_neg (by omega)]; exact h3, h4⟩
theorem OwnSl.set {j : Nat} {b' : Blk} (hj : bd ≤ j) (O : OwnSl h v e size cs n bd) : OwnSl (h.set j b') v e size cs n bd := by
  obtain ⟨hb, O⟩ := O
  refine ⟨hb, ?_⟩
  rcases O with O | ⟨id, b, h1, h2, h3, h4⟩
  · exact .inl O
  · exact .inr ⟨id, b, h1, h2, by rw [Heap.get_set, if_neg (by omega)]; exact h3, h4⟩
theorem OwnSl.at {k : Nat} (he : s.h = h) (hv : s.v k = x) (O : OwnSl h x e size cs n h.next) : OwnSl s.h (s.v k) e size cs n s.h.next := by
  subst he; subst hv; exact O
theorem OwnSl.grow (O : OwnSl h v e size cs n bd) : OwnSl h v e size cs n h.next := by
  obtain ⟨hb, O⟩ := O
  refine ⟨Nat.le_refl _, ?_⟩
  rcases O with O | ⟨id, b, h1, h2, h3⟩
  · exact .inl O
  · exact .inr ⟨id, b, h1, by omega, h3⟩

theorem append_own (O : OwnSl h v e size cs n bd) (hx : lenA x = some 1) (hf : firstA h size 1 x = some nw) (hl : nw.length = size) (hr : roomOk (n + 1) bytes = true) :
    ∃ v' h', appendA h e size bytes v x = some (v', h') ∧ OwnSl h' v' e size (cs ++ nw) (n + 1) h'.next ∧ h.next ≤ h'.next := by
  obtain ⟨hb, O⟩ := O
  rcases O with ⟨rfl, rfl, rfl⟩ | ⟨id, b, rfl, h2, h3, rfl, h5, h6, rfl, h8, h9⟩
  · refine ⟨.slO h.next 0 size 1 1 false, h.new e false nw, ?_, ⟨Nat.le_refl _, .inr ⟨h.next, newBlk h.next e false nw, rfl, Nat.lt_succ_self _, ?_, rfl, rfl, rfl, rfl, by simpa using hl, by omega⟩⟩, Nat.le_succ _⟩
    · unfold appendA
      rw [hx]
      simp only [hf]
      rw [show roomOk 1 bytes = true from hr]
      rfl
    · unfold Heap.new; rw [Heap.get_add, if_pos rfl]
  · have hA : appendA h b.el size bytes (.slO id 0 size n n false) x = appendFork h id 0 n size 1 b (b.cells ++ nw) := by
      unfold appendA
      rw [hx]
      simp only [hf]
      unfold appendO
      rw [show Nat.beq size size = true from Nat.beq_refl _]
      simp only [Bool.not_true, cond_false]
      have hn : Nat.ble (Nat.add n 1) n = false := by
        cases hh : Nat.ble (Nat.add n 1) n with
        | false => rfl
        | true => have : n + 1 ≤ n := Nat.le_of_ble_eq_true hh; omega
      rw [hn]
      simp only [cond_false]
      rw [show roomOk (Nat.add n 1) bytes = true from hr]
      simp only [Bool.not_true, cond_false]
      have hc : cellsAt h id 0 (Nat.mul n size) = some b.cells := by
        unfold cellsAt
        rw [h3]
        simp only [h6]
        show (bif true then partN b.cells 0 (n * size) else none) = _
        unfold partN
        simp only [cond_true, lenN_eq, takeN_eq, dropN_eq]
        rw [show Nat.ble (Nat.add 0 (n * size)) b.cells.length = true from Nat.ble_eq_true_of_le (by rw [h8]; show 0 + n * size ≤ _; omega)]
        simp [← h8]
      rw [hc]
      simp only [h3, h5, Bool.false_or]
      rw [show Nat.beq b.el b.el = true from Nat.beq_refl _]
      rfl
    refine ⟨_, _, hA, ⟨Nat.le_refl _, .inr ⟨h.next, { cells := b.cells ++ nw, grp := b.grp, base := Nat.add b.base 0, forked := true, frz := false, ver := 0, el := b.el, whole := false, kind := .row }, rfl, ?_, ?_, rfl, rfl, rfl, rfl, ?_, Nat.succ_pos _⟩⟩, ?_⟩
    · simp
    · rw [Heap.get_add, if_pos (by simp)]
    · rw [List.length_append, h8, hl, Nat.succ_mul]
    · simp
theorem freezeL_same {f : AV → Option AV} : ∀ l : List AV, (∀ c ∈ l, f c = some c) → freezeL f l = some l
  | [], _ => rfl
  | c :: l, hf => by
    rw [freezeL_cons, hf c (List.mem_cons_self ..), freezeL_same l fun x hx => hf x (List.mem_cons_of_mem _ hx)]
theorem freeze_own {k : Nat} (O : OwnSl h v e size cs n bd) (hf : ∀ c ∈ cs, freezeA h k c = some c) : freezeA h (k + 1) v = some (sliceA true cs n) := by
  obtain ⟨hb, O⟩ := O
  rcases O with ⟨rfl, rfl, rfl⟩ | ⟨id, b, rfl, h2, h3, rfl, h5, h6, rfl, h8, h9⟩
  · rfl
  · rw [freezeA_succ]
    simp only
    have hc : cellsAt h id 0 (Nat.mul n size) = some b.cells := by
      unfold cellsAt
      rw [h3]
      simp only [h6]
      show (bif true then partN b.cells 0 (n * size) else none) = _
      unfold partN
      simp only [cond_true, lenN_eq, takeN_eq, dropN_eq]
      rw [show Nat.ble (Nat.add 0 (n * size)) b.cells.length = true from Nat.ble_eq_true_of_le (by rw [h8]; show 0 + n * size ≤ _; omega)]
      simp [← h8]
    rw [hc]
    simp only [freezeL_same _ hf]
    cases n with
    | zero => omega
    | succ n => rfl
end
/-- so many events as one's own slice -/
def OwnEv (h : Heap) (v : AV) (l : List Ev) (bd : Nat) : Prop := OwnSl h v 37 11 (l.flatMap Ev.cells) l.length bd
theorem OwnEv.nil (h : Heap) : OwnEv h .nils [] h.next := OwnSl.nil h 37 11
theorem OwnEv.freeze {h : Heap} {v : AV} {l : List Ev} {bd k : Nat} (O : OwnEv h v l bd) : freezeA h (k + 2) v = some (evsA true l) := by
  refine freeze_own O fun c hc => ?_
  obtain ⟨e, _, he⟩ := List.mem_flatMap.1 hc
  rw [ev_cells] at he
  have key : ∀ (b : Bool) (cs : List AV) (n : Nat), freezeA h (k + 1) (sliceA b cs n) = some (sliceA b cs n) := by
    intro b cs n
    cases n with
    | zero => cases b <;> rfl
    | succ n => rfl
  simp only [List.mem_cons, List.not_mem_nil, or_false] at he
  rcases he with rfl | rfl | rfl | rfl | rfl | rfl | rfl | rfl | rfl | rfl | rfl <;> first | rfl | exact key _ _ _
theorem append_ev {K : Nat} {h : Heap} {v : AV} {l : List Ev} {bd id g ver : Nat} {e : Ev} (O : OwnEv h v l bd) (hl : l.length ≤ 60) (hg : h.get id = some (bk g 37 true ver e.elv)) :
    ∃ v' h', builtinA (Cg K) h .append #[22, 22] [v, .slO id 0 11 1 1 true] = some (v', h') ∧ OwnEv h' v' (l ++ [e]) h'.next ∧ h.next ≤ h'.next := by
  have hf : firstA h 11 1 (.slO id 0 11 1 1 true) = some e.elv := by
    show cellsAt h id 0 (Nat.mul 1 11) = _
    unfold cellsAt
    rw [hg]; rfl
  have hb : bytesT (Cg K) 37 = 144 := by kernel_rfl
  obtain ⟨v', h', h1, h2, h3⟩ := append_own (bytes := 144) O rfl hf rfl (by
    show (Nat.ble (Nat.mul (l.length + 1) 144) 140737488355328 && Nat.ble (l.length + 1) 4611686018427387904) = true
    rw [Bool.and_eq_true]
    exact ⟨Nat.ble_eq_true_of_le (show (l.length + 1) * 144 ≤ _ by omega), Nat.ble_eq_true_of_le (by omega)⟩)
  refine ⟨v', h', ?_, ?_, h3⟩
  · have : builtinA (Cg K) h .append #[22, 22] [v, .slO id 0 11 1 1 true] = appendA h 37 11 144 v (.slO id 0 11 1 1 true) := by kernel_rfl
    rw [this]; exact h1
  · have e1 : (l ++ [e]).flatMap Ev.cells = l.flatMap Ev.cells ++ e.elv := by simp [List.flatMap_append, ev_cells]; rfl
    unfold OwnEv
    rw [e1, List.length_append]
    exact h2
section
variable {K : Nat} {h : Heap} {l : List Ev} {i : Nat}
end
end
end Go.Abs
namespace Go.Abs
noncomputable section
open Go Go.Proofs
variable {K : Nat}
theorem OwnEv.at {s : St} {k : Nat} {h : Heap} {x : AV} {l l' : List Ev} (he : s.h = h) (hv : s.v k = x) (hl : l = l') (O : OwnEv h x l h.next) : OwnEv s.h (s.v k) l' s.h.next := by
  subst hl; exact OwnSl.at he hv O
theorem OwnEv.new {h : Heap} {v : AV} {l : List Ev} {bd el : Nat} {wh : Bool} {c : List AV} (O : OwnEv h v l bd) : OwnEv (h.new el wh c) v l bd := OwnSl.new O
theorem OwnEv.set {h : Heap} {v : AV} {l : List Ev} {bd j : Nat} {b' : Blk} (hj : bd ≤ j) (O : OwnEv h v l bd) : OwnEv (h.set j b') v l bd := OwnSl.set hj O
theorem OwnEv.grow {h : Heap} {v : AV} {l : List Ev} {bd : Nat} (O : OwnEv h v l bd) : OwnEv h v l h.next := OwnSl.grow O
end
end Go.Abs
namespace Go.Abs
noncomputable section
open Go
/-! ## Values and events that are the same (a list without items and none are) -/
mutual
def Val.same : Val → Val → Prop
  | .mk k n e s _ names _ items, .mk k' n' e' s' _ names' _ items' => k = k' ∧ n = n' ∧ e = e' ∧ s = s' ∧ names = names' ∧ sameL items items'
def sameL : List Val → List Val → Prop
  | [], [] => True
  | a :: l, b :: k => a.same b ∧ sameL l k
  | [], _ :: _ => False
  | _ :: _, [] => False
end
theorem same_parts {a b : Val} (h : a.same b) : a.kind = b.kind ∧ a.n = b.n ∧ a.e = b.e ∧ a.s = b.s ∧ a.names = b.names ∧ sameL a.items b.items := by
  cases a; cases b; rw [Val.same] at h; exact h
theorem sameL_len : ∀ {l k : List Val}, sameL l k → l.length = k.length
  | [], [], _ => rfl
  | a :: l, b :: k, h => by rw [sameL] at h; simp [sameL_len h.2]
  | [], _ :: _, h => by rw [sameL] at h; exact h.elim
  | _ :: _, [], h => by rw [sameL] at h; exact h.elim
theorem sameL_at : ∀ {l k : List Val} {i : Nat}, sameL l k → i < l.length → (l.getD i default).same (k.getD i default)
  | [], _, _, _, hi => by cases hi
  | a :: l, b :: k, 0, h, _ => by rw [sameL] at h; exact h.1
  | a :: l, b :: k, i + 1, h, hi => by
    rw [sameL] at h
    have := sameL_at (i := i) h.2 (by simpa using hi)
    simpa using this
  | _ :: _, [], _, h, _ => by rw [sameL] at h; exact h.elim
mutual
theorem same_refl : ∀ a : Val, a.same a
  | .mk k n e s nn names ni items => by rw [Val.same]; exact ⟨rfl, rfl, rfl, rfl, rfl, sameL_refl items⟩
theorem sameL_refl : ∀ l : List Val, sameL l l
  | [] => by rw [sameL]; trivial
  | a :: l => by rw [sameL]; exact ⟨same_refl a, sameL_refl l⟩
end
structure Ev.same (a b : Ev) : Prop where
  comp : a.comp = b.comp
  kind : a.kind = b.kind
  text : a.text = b.text
  name : a.name = b.name
  other : a.other = b.other
  val : a.val.same b.val
theorem Ev.same_refl (a : Ev) : a.same a := ⟨rfl, rfl, rfl, rfl, rfl, Go.Abs.same_refl _⟩
theorem bne_no {a b : Int} (h : a = b) : (a != b) = false := by subst h; simp
theorem beq_yes {a b : Int} (h : a = b) : (a == b) = true := by subst h; simp
theorem bytes_no {a b : List UInt8} (h : a = b) : (!(beqBytes a b)) = false := by subst h; rw [beqBytes_self]; rfl
theorem bytes_yes {a b : List UInt8} (h : a = b) : beqBytes a b = true := by subst h; exact beqBytes_self _
theorem lt_same {i a b : Nat} {t : Bool} (h : a = b) (h1 : decide (((i : Nat) : Int) < ((a : Nat) : Int)) = t) : decide (((i : Nat) : Int) < ((b : Nat) : Int)) = t := by subst h; exact h1
theorem len_no {a b : Nat} (h : a = b) : (((a : Nat) : Int) != ((b : Nat) : Int)) = false := by subst h; simp
theorem gt_no {a b : Nat} (h : a = b) : decide (((a : Nat) : Int) > ((b : Nat) : Int)) = false := by subst h; simp
theorem lt_no {a b : Nat} (h : a = b) : decide (((a : Nat) : Int) < ((b : Nat) : Int)) = false := by subst h; simp
end
end Go.Abs
namespace Go.Abs
noncomputable section
open Go Go.Proofs
variable {K : Nat}
set_option maxRecDepth 20000 in
theorem count_c {n : Nat}  (hn : 1 ≤ n) (b : Bool)  (h : Heap) : (fns (Cg K) n).call 93 [.bool b] h none = some (.val (.int .i64 (bif b then 1 else 0)) h none) := by
  obtain ⟨m, rfl⟩ : ∃ m, n = m + 1 := ⟨n - 1, by omega⟩
  refine pureq (C := Cg K) (F := fns (Cg K) m) (fn := Tryz.f93) (c := bodyOf Tryz.f93) (by kernel_rfl) (by kernel_rfl) (by kernel_rfl) (by kernel_rfl) (by kernel_rfl) (by kernel_rfl) (by kernel_rfl) ?_ h
  refine W.seq ?_
  refine W.region ?_
  refine WO.fin (by kernel_rfl) ?_
  refine W.seq ?_
  refine W.seq ?_
  refine W.region ?_
  refine WO.fin (by kernel_rfl) ?_
  refine W.cond b (by kernel_rfl) (fun hb1 => ?_) (fun hb1 => ?_)
  · refine W.sub 0 hb1 (by kernel_rfl) ?_
    refine W.sub 3 hb1 (by kernel_rfl) ?_
    refine W.seq ?_
    refine W.region ?_
    refine WO.fin (by kernel_rfl) ?_
    refine W.ret ?_
    exact RetQ.k (v' := .int .i64 1) (by simp [*]) (by kernel_rfl) (by kernel_rfl)
  · refine W.sub 0 hb1 (by kernel_rfl) ?_
    refine W.sub 3 hb1 (by kernel_rfl) ?_
    refine W.skip ?_
    refine W.seq ?_
    refine W.region ?_
    refine WO.fin (by kernel_rfl) ?_
    refine W.ret ?_
    exact RetQ.k (v' := .int .i64 0) (by simp [*]) (by kernel_rfl) (by kernel_rfl)

set_option maxRecDepth 20000 in
theorem cmp3_c {n : Nat}  (hn : 2 ≤ n) (a b : Val) (h1 : a.kind = b.kind) (h2 : a.n = b.n) (h3 : a.e = b.e) (hK : big ≤ K)  : (fns (Cg K) n).call 92 [.slO 2 0 1 3 3 true, .slO 3 0 1 3 3 true] (hpL [bk 0 35 true 0 a.six, bk 1 35 true 0 b.six, bk 2 3 true 0 [.int .i64 a.kind, .int .i64 a.n, .int .i64 a.e], bk 3 3 true 0 [.int .i64 b.kind, .int .i64 b.n, .int .i64 b.e]]) none = some (.val (.int .i64 0) (hpL [bk 0 35 true 0 a.six, bk 1 35 true 0 b.six, bk 2 3 true 0 [.int .i64 a.kind, .int .i64 a.n, .int .i64 a.e], bk 3 3 true 0 [.int .i64 b.kind, .int .i64 b.n, .int .i64 b.e]]) none) := by
  obtain ⟨m, rfl⟩ : ∃ m, n = m + 1 := ⟨n - 1, by omega⟩
  refine plainq (C := Cg K) (F := fns (Cg K) m) (fn := Tryz.f92) (c := bodyOf Tryz.f92) (by kernel_rfl) (by kernel_rfl) (by kernel_rfl) (by kernel_rfl) (by kernel_rfl) (by kernel_rfl) ?_
  refine W.seq ?_
  refine W.region ?_
  refine WO.fin (by kernel_rfl) ?_
  refine W.seq ?_
  refine W.seq ?_
  refine W.region ?_
  refine WO.fin (by kernel_rfl) ?_
  refine W.block ?_
  refine W.unroll ?_
  refine WI.step (by rw [loops_eq]; unfold big at hK; omega) ?_
  refine W.seq ?_
  refine W.seq ?_
  refine W.region ?_
  refine WO.fin (by kernel_rfl) ?_
  refine W.cond true (by kernel_rfl) (fun _ => ?_) (fun h => by cases h)
  refine W.skip ?_
  refine W.seq ?_
  refine W.block ?_
  refine W.seq ?_
  refine W.drawn2 (by kernel_rfl) ?_
  refine WE.fin (by kernel_rfl) ?_
  have hb1 : (a.kind != b.kind) = false := bne_no h1
  refine W.sub 26 hb1 (by kernel_rfl) ?_
  refine W.cond false (by kernel_rfl) (fun h => by cases h) (fun _ => ?_)
  refine W.skip ?_
  refine W.region ?_
  refine WO.fin (by kernel_rfl) ?_
  refine WI.step (by rw [loops_eq]; unfold big at hK; omega) ?_
  refine W.seq ?_
  refine W.seq ?_
  refine W.region ?_
  refine WO.fin (by kernel_rfl) ?_
  refine W.cond true (by kernel_rfl) (fun _ => ?_) (fun h => by cases h)
  refine W.skip ?_
  refine W.seq ?_
  refine W.block ?_
  refine W.seq ?_
  refine W.drawn2 (by kernel_rfl) ?_
  refine WE.fin (by kernel_rfl) ?_
  have hb2 : (a.n != b.n) = false := bne_no h2
  refine W.sub 26 hb2 (by kernel_rfl) ?_
  refine W.cond false (by kernel_rfl) (fun h => by cases h) (fun _ => ?_)
  refine W.skip ?_
  refine W.region ?_
  refine WO.fin (by kernel_rfl) ?_
  refine WI.step (by rw [loops_eq]; unfold big at hK; omega) ?_
  refine W.seq ?_
  refine W.seq ?_
  refine W.region ?_
  refine WO.fin (by kernel_rfl) ?_
  refine W.cond true (by kernel_rfl) (fun _ => ?_) (fun h => by cases h)
  refine W.skip ?_
  refine W.seq ?_
  refine W.block ?_
  refine W.seq ?_
  refine W.drawn2 (by kernel_rfl) ?_
  refine WE.fin (by kernel_rfl) ?_
  have hb3 : (a.e != b.e) = false := bne_no h3
  refine W.sub 26 hb3 (by kernel_rfl) ?_
  refine W.cond false (by kernel_rfl) (fun h => by cases h) (fun _ => ?_)
  refine W.skip ?_
  refine W.region ?_
  refine WO.fin (by kernel_rfl) ?_
  refine WI.step (by rw [loops_eq]; unfold big at hK; omega) ?_
  refine W.seq ?_
  refine W.seq ?_
  refine W.region ?_
  refine WO.fin (by kernel_rfl) ?_
  refine W.cond false (by kernel_rfl) (fun h => by cases h) (fun _ => ?_)
  refine W.exit ?_
  refine blockQ ?_
  refine W.seq ?_
  refine W.region ?_
  refine WO.adv 5 (by kernel_rfl) ?_
  refine WO.callp (by kernel_rfl) (count_c (n := m) (by omega) false _) ?_
  refine WO.adv 5 (by kernel_rfl) ?_
  refine WO.callp (by kernel_rfl) (count_c (n := m) (by omega) false _) ?_
  refine WO.fin (by kernel_rfl) ?_
  refine W.ret ?_
  exact RetN.k (v' := .int .i64 0) (by rfl) rfl (by kernel_rfl) (by kernel_rfl) (by kernel_rfl)

set_option maxRecDepth 20000 in
theorem cmpList_c {n : Nat}  (hn : 2 ≤ n) (a b : Val) (hv : a.ok) (hK : big ≤ K) (hl : a.items.length = b.items.length) (hrec0 : ∀ m, m + 1 = n → ∀ i, i < a.items.length → ∀ h, (fns (Cg K) m).call 74 [.agg (a.items.getD i default).six, .agg (b.items.getD i default).six] h none = some (.val (.int .i64 0) h none)) (h : Heap) : (fns (Cg K) n).call 94 [a.itemsA, b.itemsA] h none = some (.val (.int .i64 0) h none) := by
  obtain ⟨m, rfl⟩ : ∃ m, n = m + 1 := ⟨n - 1, by omega⟩
  have hlt := ok_items hv
  have hlen : a.items.length ≤ 9223372036854775807 := by unfold big at hlt; omega
  have hlK : a.items.length < (Cg K).loops := by rw [loops_eq]; omega
  have hrec := hrec0 m rfl
  clear hrec0
  refine pureq (C := Cg K) (F := fns (Cg K) m) (fn := Tryz.f94) (c := bodyOf Tryz.f94) (by kernel_rfl) (by kernel_rfl) (by kernel_rfl) (noL (itemsD _) (noL (itemsD _) rfl)) (by kernel_rfl) (by kernel_rfl) (by kernel_rfl) ?_ h
  refine W.seq ?_
  refine W.region ?_
  refine WO.fin (by kernel_rfl) ?_
  refine W.seq ?_
  refine W.seq ?_
  refine W.region ?_
  refine WO.fin (by kernel_rfl) ?_
  refine W.block ?_
  refine W.loopc (len := a.items.length) (fun i t => (S 44 [some (a.itemsA), some (b.itemsA), none, none, (t.g 4), some (.int .i64 ((i : Nat) : Int)), (t.g 6), (t.g 7), (t.g 8), (t.g 9), (t.g 10), (t.g 11), (t.g 12), (t.g 13), (t.g 14), (t.g 15), (t.g 16), (t.g 17), (t.g 18), (t.g 19), (t.g 20), (t.g 21), (t.g 22), (t.g 23), (t.g 24), (t.g 25), (t.g 26), (t.g 27), (t.g 28), (t.g 29), (t.g 30), none, none, none, none, none, none, none, none, none, none, none, none, none] (hpL []))) (fun i t => (True)) hlK ?_ ?_ ?_
  · exact Told.k (by kernel_rfl)
  · trivial
  · intro i1 t1 hi1 hI1
    refine W.seq ?_
    refine W.seq ?_
    refine W.region ?_
    refine WO.adv 2 (by kernel_rfl) ?_
    refine WO.opc (fun h => items_len (K := K) (h := h) (v := a)) (by kernel_rfl) ?_
    refine WO.adv 2 (by kernel_rfl) ?_
    refine splitB (decide (((i1 : Nat) : Int) < ((a.items.length : Nat) : Int))) (fun hb2 => ?_) (fun hb2 => ?_)
    · refine WO.sub 10 hb2 (by kernel_rfl) ?_
      refine WO.sub 11 hb2 (by kernel_rfl) ?_
      refine WO.adv 2 (by kernel_rfl) ?_
      refine WO.opc (fun h => items_len (K := K) (h := h) (v := b)) (by kernel_rfl) ?_
      refine WO.fin (by kernel_rfl) ?_
      have hb3 : (decide (((i1 : Nat) : Int) < ((b.items.length : Nat) : Int))) = true := lt_same hl hb2
      refine W.sub 15 hb3 (by kernel_rfl) ?_
      refine W.sub 16 hb3 (by kernel_rfl) ?_
      refine W.cond true (by kernel_rfl) (fun _ => ?_) (fun h => by cases h)
      refine W.skip ?_
      refine W.seq ?_
      refine W.block ?_
      refine W.seq ?_
      refine W.drawn2 (by kernel_rfl) ?_
      refine WE.adv (j' := 2) 2 (by kernel_rfl) (by kernel_rfl) ?_
      refine WE.opq (fun h => items_at (K := K) (h := h) (v := a) (lt_of_dec hb2)) (by kernel_rfl) (by kernel_rfl) ?_
      refine WE.opl (fun h => item_six (K := K) (h := h) (v := a) (lt_of_dec hb2)) (by kernel_rfl) (by kernel_rfl) (by kernel_rfl) ?_
      refine WE.adv (j' := 6) 2 (by kernel_rfl) (by kernel_rfl) ?_
      refine WE.opq (fun h => items_at (K := K) (h := h) (v := b) (lt_of_dec hb3)) (by kernel_rfl) (by kernel_rfl) ?_
      refine WE.opl (fun h => item_six (K := K) (h := h) (v := b) (lt_of_dec hb3)) (by kernel_rfl) (by kernel_rfl) (by kernel_rfl) ?_
      refine WE.callp (by kernel_rfl) (by kernel_rfl) (hrec i1 (lt_of_dec hb2) _) ?_
      refine WE.fin (by kernel_rfl) ?_
      refine W.seq ?_
      refine W.region ?_
      refine WO.fin (by kernel_rfl) ?_
      refine W.cond false (by kernel_rfl) (fun h => by cases h) (fun _ => ?_)
      refine W.skip ?_
      refine W.region ?_
      refine WO.fin (by kernel_rfl) ?_
      have hlt : i1 < a.items.length := ((lt_of_dec hb2))
      refine ⟨hlt, ?_, ?_⟩
      · trivial
      · refine Told.put 5 (wrapA hlt hlen) (by kernel_rfl) ?_
        exact Told.k (by kernel_rfl)
    · refine WO.sub 10 hb2 (by kernel_rfl) ?_
      refine WO.sub 11 hb2 (by kernel_rfl) ?_
      refine WO.fin (by kernel_rfl) ?_
      refine W.cond false (by kernel_rfl) (fun h => by cases h) (fun _ => ?_)
      refine W.exit ?_
      refine blockQ ?_
      refine W.seq ?_
      refine W.region ?_
      refine WO.adv 1 (by kernel_rfl) ?_
      refine WO.opc (fun h => items_len (K := K) (h := h) (v := a)) (by kernel_rfl) ?_
      refine WO.adv 1 (by kernel_rfl) ?_
      refine WO.opc (fun h => items_len (K := K) (h := h) (v := b)) (by kernel_rfl) ?_
      refine WO.adv 1 (by kernel_rfl) ?_
      refine WO.callp (by kernel_rfl) (count_c (n := m) (by omega) (decide (((a.items.length : Nat) : Int) > ((b.items.length : Nat) : Int))) _) ?_
      refine WO.adv 1 (by kernel_rfl) ?_
      refine WO.opc (fun h => items_len (K := K) (h := h) (v := a)) (by kernel_rfl) ?_
      refine WO.adv 1 (by kernel_rfl) ?_
      refine WO.opc (fun h => items_len (K := K) (h := h) (v := b)) (by kernel_rfl) ?_
      refine WO.adv 1 (by kernel_rfl) ?_
      refine WO.callp (by kernel_rfl) (count_c (n := m) (by omega) (decide (((a.items.length : Nat) : Int) < ((b.items.length : Nat) : Int))) _) ?_
      refine WO.fin (by kernel_rfl) ?_
      refine W.ret ?_
      exact RetQ.k (v' := .int .i64 (wrapF .i64 ((bif (decide (((a.items.length : Nat) : Int) > ((b.items.length : Nat) : Int))) then 1 else 0) - (bif (decide (((a.items.length : Nat) : Int) < ((b.items.length : Nat) : Int))) then 1 else 0)))) (by rw [gt_no hl, lt_no hl]; rfl) (by kernel_rfl) (by kernel_rfl)

set_option maxRecDepth 20000 in
theorem cmpVal_c1 {n : Nat}  (hn : 3 ≤ n) (a b : Val) (hv : a.ok) (hK : big ≤ K) (hs : a.kind = b.kind ∧ a.n = b.n ∧ a.e = b.e ∧ a.s = b.s ∧ a.names = b.names ∧ sameL a.items b.items) (hrec0 : ∀ m, m + 1 = n → ∀ h, (fns (Cg K) m).call 94 [a.itemsA, b.itemsA] h none = some (.val (.int .i64 0) h none)) (h : Heap) : (fns (Cg K) n).call 74 [.agg a.six, .agg b.six] h none = some (.val (.int .i64 0) h none) := by
  obtain ⟨m, rfl⟩ : ∃ m, n = m + 1 := ⟨n - 1, by omega⟩
  have hlt1 := ok_names hv
  have hlen1 : a.names.length ≤ 9223372036854775807 := by unfold big at hlt1; omega
  have hlK1 : a.names.length < (Cg K).loops := by rw [loops_eq]; omega
  have hrec := hrec0 m rfl
  clear hrec0
  refine pureq (C := Cg K) (F := fns (Cg K) m) (fn := Tryz.f74) (c := bodyOf Tryz.f74) (by kernel_rfl) (by kernel_rfl) (by kernel_rfl) (noL (aggSix _) (noL (aggSix _) rfl)) (by kernel_rfl) (by kernel_rfl) (by kernel_rfl) ?_ h
  refine W.seq ?_
  refine W.region ?_
  refine WO.fin (by kernel_rfl) ?_
  refine W.seq ?_
  refine W.seq ?_
  refine W.region ?_
  refine WO.adv 14 (by kernel_rfl) ?_
  refine WO.callh (by kernel_rfl) (by kernel_rfl) (cmp3_c (n := m) (by omega) a b hs.1 hs.2.1 hs.2.2.1 hK) ?_
  refine WO.fin (by kernel_rfl) ?_
  refine W.seq ?_
  refine W.region ?_
  refine WO.fin (by kernel_rfl) ?_
  refine W.cond false (by kernel_rfl) (fun h => by cases h) (fun _ => ?_)
  refine W.skip ?_
  refine W.seq ?_
  refine W.seq ?_
  refine W.region ?_
  refine WO.fin (by kernel_rfl) ?_
  have hb1 : (!(beqBytes a.s b.s)) = false := bytes_no hs.2.2.2.1
  refine W.sub 29 hb1 (by kernel_rfl) ?_
  refine W.cond false (by kernel_rfl) (fun h => by cases h) (fun _ => ?_)
  refine W.skip ?_
  refine W.seq ?_
  refine W.seq ?_
  refine W.region ?_
  refine WO.fin (by kernel_rfl) ?_
  refine W.block ?_
  refine W.loopc (len := a.names.length) (fun i t => (S 99 ((some (.agg a.six)) :: (some (.agg b.six)) :: (some (.ptrO 0 0)) :: (some (.ptrO 1 0)) :: (t.g 4) :: (some (.int .i64 0)) :: (some (.int .i64 ((i : Nat) : Int))) :: (some (.ptrO 0 0)) :: (some (.int .i64 a.kind)) :: (some (.ptrO 0 1)) :: (some (.int .i64 a.n)) :: (some (.ptrO 0 2)) :: (some (.int .i64 a.e)) :: (some (.slO 2 0 1 3 3 true)) :: (some (.ptrO 1 0)) :: (some (.int .i64 b.kind)) :: (some (.ptrO 1 1)) :: (some (.int .i64 b.n)) :: (some (.ptrO 1 2)) :: (some (.int .i64 b.e)) :: (some (.slO 3 0 1 3 3 true)) :: (some (.int .i64 0)) :: (some (.int .i64 0)) :: (some (.bool false)) :: none :: (some (.ptrO 0 3)) :: (some (.str a.s)) :: (some (.ptrO 1 3)) :: (some (.str b.s)) :: (some (.bool false)) :: none :: none :: none :: none :: none :: none :: none :: none :: (t.g 38) :: (t.g 39) :: (t.g 40) :: (t.g 41) :: (t.g 42) :: (t.g 43) :: (t.g 44) :: (t.g 45) :: (t.g 46) :: (t.g 47) :: (t.g 48) :: (t.g 49) :: (t.g 50) :: (t.g 51) :: (t.g 52) :: (t.g 53) :: (t.g 54) :: (t.g 55) :: (t.g 56) :: (t.g 57) :: (t.g 58) :: (t.g 59) :: (t.g 60) :: (t.g 61) :: (t.g 62) :: (t.g 63) :: (t.g 64) :: (t.g 65) :: (t.g 66) :: (t.g 67) :: (t.g 68) :: (t.g 69) :: (t.g 70) :: (t.g 71) :: (t.g 72) :: (t.g 73) :: (t.g 74) :: (t.g 75) :: (t.g 76) :: none :: none :: none :: none :: none :: none :: none :: none :: none :: none :: none :: none :: none :: none :: none :: none :: none :: none :: none :: none :: none :: none :: []) (hpL [bk 0 35 true 0 a.six, bk 1 35 true 0 b.six, bk 2 3 true 0 [.int .i64 a.kind, .int .i64 a.n, .int .i64 a.e], bk 3 3 true 0 [.int .i64 b.kind, .int .i64 b.n, .int .i64 b.e]]))) (fun i t => (True)) hlK1 ?_ ?_ ?_
  · exact Told.k (by kernel_rfl)
  · trivial
  · intro i2 t2 hi2 hI2
    refine W.seq ?_
    refine W.seq ?_
    refine W.region ?_
    refine WO.adv 3 (by kernel_rfl) ?_
    refine WO.opc (fun h => names_len (K := K) (h := h) (v := a)) (by kernel_rfl) ?_
    refine WO.adv 2 (by kernel_rfl) ?_
    refine splitB (decide (((i2 : Nat) : Int) < ((a.names.length : Nat) : Int))) (fun hb3 => ?_) (fun hb3 => ?_)
    · refine WO.sub 42 hb3 (by kernel_rfl) ?_
      refine WO.sub 43 hb3 (by kernel_rfl) ?_
      refine WO.adv 3 (by kernel_rfl) ?_
      refine WO.opc (fun h => names_len (K := K) (h := h) (v := b)) (by kernel_rfl) ?_
      refine WO.fin (by kernel_rfl) ?_
      have hb4 : (decide (((i2 : Nat) : Int) < ((b.names.length : Nat) : Int))) = true := lt_same (congrArg List.length hs.2.2.2.2.1) hb3
      refine W.sub 48 hb4 (by kernel_rfl) ?_
      refine W.sub 49 hb4 (by kernel_rfl) ?_
      refine W.cond true (by kernel_rfl) (fun _ => ?_) (fun h => by cases h)
      refine W.skip ?_
      refine W.seq ?_
      refine W.block ?_
      refine W.seq ?_
      refine W.drawn2 (by kernel_rfl) ?_
      refine WE.adv (j' := 3) 3 (by kernel_rfl) (by kernel_rfl) ?_
      refine WE.opq (fun h => names_at (K := K) (h := h) (v := a) (lt_of_dec hb3)) (by kernel_rfl) (by kernel_rfl) ?_
      refine WE.opl (fun h => name_get (K := K) (h := h) (v := a) (lt_of_dec hb3)) (by kernel_rfl) (by kernel_rfl) (by kernel_rfl) ?_
      refine WE.adv (j' := 8) 3 (by kernel_rfl) (by kernel_rfl) ?_
      refine WE.opq (fun h => names_at (K := K) (h := h) (v := b) (lt_of_dec hb4)) (by kernel_rfl) (by kernel_rfl) ?_
      refine WE.opl (fun h => name_get (K := K) (h := h) (v := b) (lt_of_dec hb4)) (by kernel_rfl) (by kernel_rfl) (by kernel_rfl) ?_
      refine WE.fin (by kernel_rfl) ?_
      have hb5 : (!(beqBytes (a.names.getD i2 []) (b.names.getD i2 []))) = false := bytes_no (by rw [hs.2.2.2.2.1])
      refine W.sub 62 hb5 (by kernel_rfl) ?_
      refine W.cond false (by kernel_rfl) (fun h => by cases h) (fun _ => ?_)
      refine W.skip ?_
      refine W.region ?_
      refine WO.fin (by kernel_rfl) ?_
      have hlt : i2 < a.names.length := ((lt_of_dec hb3))
      refine ⟨hlt, ?_, ?_⟩
      · trivial
      · refine Told.put 6 (wrapA hlt hlen1) (by kernel_rfl) ?_
        exact Told.k (by kernel_rfl)
    · refine WO.sub 42 hb3 (by kernel_rfl) ?_
      refine WO.sub 43 hb3 (by kernel_rfl) ?_
      refine WO.fin (by kernel_rfl) ?_
      refine W.cond false (by kernel_rfl) (fun h => by cases h) (fun _ => ?_)
      refine W.exit ?_
      refine blockQ ?_
      refine W.seq ?_
      refine W.seq ?_
      refine W.region ?_
      refine WO.adv 2 (by kernel_rfl) ?_
      refine WO.opc (fun h => names_len (K := K) (h := h) (v := a)) (by kernel_rfl) ?_
      refine WO.adv 2 (by kernel_rfl) ?_
      refine WO.opc (fun h => names_len (K := K) (h := h) (v := b)) (by kernel_rfl) ?_
      refine WO.fin (by kernel_rfl) ?_
      have hb6 : (((a.names.length : Nat) : Int) != ((b.names.length : Nat) : Int)) = false := len_no (congrArg List.length hs.2.2.2.2.1)
      refine W.sub 83 hb6 (by kernel_rfl) ?_
      refine W.cond false (by kernel_rfl) (fun h => by cases h) (fun _ => ?_)
      refine W.skip ?_
      refine W.seq ?_
      refine W.region ?_
      refine WO.adv 4 (by kernel_rfl) ?_
      refine WO.callp (by kernel_rfl) (hrec _) ?_
      refine WO.fin (by kernel_rfl) ?_
      refine W.ret ?_
      exact RetQ.k (v' := .int .i64 0) (by rfl) (by kernel_rfl) (by kernel_rfl)

theorem cmpVal_c (hK : big ≤ K) : ∀ (d : Nat) (a b : Val), a.dep ≤ d → a.ok → a.same b → ∀ n, 2 * d + 3 ≤ n → ∀ h, (fns (Cg K) n).call 74 [.agg a.six, .agg b.six] h none = some (.val (.int .i64 0) h none) := by
  intro d
  induction d with
  | zero => intro a b hd; cases a; rw [Val.dep] at hd; omega
  | succ d ih =>
    intro a b hd hv hs n hn h
    have hp := same_parts hs
    refine cmpVal_c1 (by omega) a b hv hK hp (fun m hm h => ?_) h
    refine cmpList_c (by omega) a b hv hK (sameL_len hp.2.2.2.2.2) (fun m2 hm2 i hi h => ?_) h
    exact ih _ _ (by have := dep_item a hi; omega) (ok_item hv hi) (sameL_at hp.2.2.2.2.2 hi) m2 (by omega) h
set_option maxRecDepth 20000 in
theorem sameVal_c {n : Nat} {d : Nat} (hn : 2 * d + 4 ≤ n) (a b : Val) (hd : a.dep ≤ d) (hv : a.ok) (hs : a.same b) (hK : big ≤ K)  (h : Heap) : (fns (Cg K) n).call 52 [.agg a.six, .agg b.six] h none = some (.val (.bool true) h none) := by
  obtain ⟨m, rfl⟩ : ∃ m, n = m + 1 := ⟨n - 1, by omega⟩
  refine pureq (C := Cg K) (F := fns (Cg K) m) (fn := Tryz.f52) (c := bodyOf Tryz.f52) (by kernel_rfl) (by kernel_rfl) (by kernel_rfl) (noL (aggSix _) (noL (aggSix _) rfl)) (by kernel_rfl) (by kernel_rfl) (by kernel_rfl) ?_ h
  refine W.seq ?_
  refine W.region ?_
  refine WO.fin (by kernel_rfl) ?_
  refine W.seq ?_
  refine W.region ?_
  refine WO.adv 2 (by kernel_rfl) ?_
  refine WO.callp (by kernel_rfl) (cmpVal_c hK d a b hd hv hs m (by omega) _) ?_
  refine WO.fin (by kernel_rfl) ?_
  refine W.ret ?_
  exact RetQ.k (v' := .bool true) (by rfl) (by kernel_rfl) (by kernel_rfl)

set_option maxRecDepth 20000 in
theorem sameEv_c {n : Nat} {d : Nat} (hn : 2 * d + 5 ≤ n) (a b : Ev) (hd : a.val.dep ≤ d) (hv : a.val.ok) (hs : a.same b) (hK : big ≤ K)  (h : Heap) : (fns (Cg K) n).call 25 [.agg a.elv, .agg b.elv] h none = some (.val (.bool true) h none) := by
  obtain ⟨m, rfl⟩ : ∃ m, n = m + 1 := ⟨n - 1, by omega⟩
  refine pureq (C := Cg K) (F := fns (Cg K) m) (fn := Tryz.f25) (c := bodyOf Tryz.f25) (by kernel_rfl) (by kernel_rfl) (by kernel_rfl) (noL (aggElv _) (noL (aggElv _) rfl)) (by kernel_rfl) (by kernel_rfl) (by kernel_rfl) ?_ h
  refine W.seq ?_
  refine W.region ?_
  refine WO.fin (by kernel_rfl) ?_
  refine W.seq ?_
  refine W.region ?_
  refine WO.adv 6 (by kernel_rfl) ?_
  have hb1 : (a.comp == b.comp) = true := beq_yes hs.comp
  refine WO.sub 9 hb1 (by kernel_rfl) ?_
  refine WO.sub 10 hb1 (by kernel_rfl) ?_
  refine WO.adv 7 (by kernel_rfl) ?_
  have hb2 : (a.kind == b.kind) = true := beq_yes hs.kind
  refine WO.sub 15 hb2 (by kernel_rfl) ?_
  refine WO.sub 16 hb2 (by kernel_rfl) ?_
  refine WO.sub 17 hb2 (by kernel_rfl) ?_
  refine WO.adv 7 (by kernel_rfl) ?_
  have hb3 : (beqBytes a.text b.text) = true := bytes_yes hs.text
  refine WO.sub 22 hb3 (by kernel_rfl) ?_
  refine WO.sub 23 hb3 (by kernel_rfl) ?_
  refine WO.sub 24 hb3 (by kernel_rfl) ?_
  refine WO.adv 7 (by kernel_rfl) ?_
  have hb4 : (beqBytes a.name b.name) = true := bytes_yes hs.name
  refine WO.sub 29 hb4 (by kernel_rfl) ?_
  refine WO.sub 30 hb4 (by kernel_rfl) ?_
  refine WO.sub 31 hb4 (by kernel_rfl) ?_
  refine WO.adv 7 (by kernel_rfl) ?_
  have hb5 : (a.other == b.other) = true := beq_yes hs.other
  refine WO.sub 36 hb5 (by kernel_rfl) ?_
  refine WO.sub 37 hb5 (by kernel_rfl) ?_
  refine WO.sub 38 hb5 (by kernel_rfl) ?_
  refine WO.adv 4 (by kernel_rfl) ?_
  refine WO.callp (by kernel_rfl) (sameVal_c (d := d) (by omega) a.val b.val hd hv hs.val hK _) ?_
  refine WO.fin (by kernel_rfl) ?_
  refine W.ret ?_
  exact RetQ.k (v' := .bool true) (by first | rfl | (simp [*])) (by kernel_rfl) (by kernel_rfl)

set_option maxRecDepth 20000 in
theorem sameEvs_c {n : Nat} {d : Nat} (hn : 2 * d + 6 ≤ n) (nn nk : Bool) (l k : List Ev) (hd : ∀ i, i < l.length → (l.getD i default).val.dep ≤ d ∧ (l.getD i default).val.ok) (hl : l.length < big) (hlk : l.length = k.length) (hs : ∀ i, i < l.length → (l.getD i default).same (k.getD i default)) (hK : big ≤ K)  (h : Heap) : (fns (Cg K) n).call 19 [(evsA nn l), (evsA nk k)] h none = some (.val (.bool true) h none) := by
  obtain ⟨m, rfl⟩ : ∃ m, n = m + 1 := ⟨n - 1, by omega⟩
  have hlen : l.length ≤ 9223372036854775807 := by unfold big at hl; omega
  have hlK : l.length < (Cg K).loops := by rw [loops_eq]; omega
  have hrec : ∀ i, i < l.length → ∀ h, (fns (Cg K) m).call 25 [.agg (l.getD i default).elv, .agg (k.getD i default).elv] h none = some (.val (.bool true) h none) := fun i hi h => sameEv_c (d := d) (by omega) _ _ (hd i hi).1 (hd i hi).2 (hs i hi) hK h
  refine pureq (C := Cg K) (F := fns (Cg K) m) (fn := Tryz.f19) (c := bodyOf Tryz.f19) (by kernel_rfl) (by kernel_rfl) (by kernel_rfl) (noL (evsD _ _) (noL (evsD _ _) rfl)) (by kernel_rfl) (by kernel_rfl) (by kernel_rfl) ?_ h
  refine W.seq ?_
  refine W.region ?_
  refine WO.fin (by kernel_rfl) ?_
  refine W.seq ?_
  refine W.seq ?_
  refine W.region ?_
  refine WO.adv 1 (by kernel_rfl) ?_
  refine WO.opc (fun h => evs_len (K := K) (h := h) (b := nn) (l := l)) (by kernel_rfl) ?_
  refine WO.adv 1 (by kernel_rfl) ?_
  refine WO.opc (fun h => evs_len (K := K) (h := h) (b := nk) (l := k)) (by kernel_rfl) ?_
  refine WO.fin (by kernel_rfl) ?_
  have hb1 : (((l.length : Nat) : Int) != ((k.length : Nat) : Int)) = false := len_no hlk
  refine W.sub 10 hb1 (by kernel_rfl) ?_
  refine W.cond false (by kernel_rfl) (fun h => by cases h) (fun _ => ?_)
  refine W.skip ?_
  refine W.seq ?_
  refine W.seq ?_
  refine W.region ?_
  refine WO.fin (by kernel_rfl) ?_
  refine W.block ?_
  refine W.loopc (len := l.length) (fun i t => (S 27 [some ((evsA nn l)), some ((evsA nk k)), none, none, (t.g 4), some (.int .i64 ((i : Nat) : Int)), some ((evsA nn l)), some (.int .i64 ((l.length : Nat) : Int)), some ((evsA nk k)), some (.int .i64 ((k.length : Nat) : Int)), some (.bool false), (t.g 11), (t.g 12), (t.g 13), (t.g 14), (t.g 15), (t.g 16), (t.g 17), (t.g 18), (t.g 19), (t.g 20), (t.g 21), (t.g 22), (t.g 23), (t.g 24), (t.g 25), (t.g 26)] (hpL []))) (fun i t => (True)) hlK ?_ ?_ ?_
  · exact Told.k (by kernel_rfl)
  · trivial
  · intro i2 t2 hi2 hI2
    refine W.seq ?_
    refine W.seq ?_
    refine W.region ?_
    refine WO.adv 2 (by kernel_rfl) ?_
    refine WO.opc (fun h => evs_len (K := K) (h := h) (b := nn) (l := l)) (by kernel_rfl) ?_
    refine WO.fin (by kernel_rfl) ?_
    refine W.cond (decide (((i2 : Nat) : Int) < ((l.length : Nat) : Int))) (by kernel_rfl) (fun hb3 => ?_) (fun hb3 => ?_)
    · refine W.sub 14 hb3 (by kernel_rfl) ?_
      refine W.skip ?_
      refine W.seq ?_
      refine W.block ?_
      refine W.seq ?_
      refine W.drawn2 (by kernel_rfl) ?_
      refine WE.adv (j' := 2) 2 (by kernel_rfl) (by kernel_rfl) ?_
      refine WE.opq (fun h => evs_at (K := K) (h := h) (b := nn) (lt_of_dec hb3)) (by kernel_rfl) (by kernel_rfl) ?_
      refine WE.opl (fun h => ev_elv (K := K) (h := h) (lt_of_dec hb3)) (by kernel_rfl) (by kernel_rfl) (by kernel_rfl) ?_
      refine WE.adv (j' := 6) 2 (by kernel_rfl) (by kernel_rfl) ?_
      refine WE.opq (fun h => evs_at (K := K) (h := h) (b := nk) (lt_of_dec (lt_same hlk hb3))) (by kernel_rfl) (by kernel_rfl) ?_
      refine WE.opl (fun h => ev_elv (K := K) (h := h) (lt_of_dec (lt_same hlk hb3))) (by kernel_rfl) (by kernel_rfl) (by kernel_rfl) ?_
      refine WE.callp (by kernel_rfl) (by kernel_rfl) (hrec i2 (lt_of_dec hb3) _) ?_
      refine WE.fin (by kernel_rfl) ?_
      refine W.cond false (by kernel_rfl) (fun h => by cases h) (fun _ => ?_)
      refine W.skip ?_
      refine W.region ?_
      refine WO.fin (by kernel_rfl) ?_
      have hlt : i2 < l.length := ((lt_of_dec hb3))
      refine ⟨hlt, ?_, ?_⟩
      · trivial
      · refine Told.put 5 (wrapA hlt hlen) (by kernel_rfl) ?_
        exact Told.k (by kernel_rfl)
    · refine W.sub 14 hb3 (by kernel_rfl) ?_
      refine W.exit ?_
      refine blockQ ?_
      refine W.seq ?_
      refine W.region ?_
      refine WO.fin (by kernel_rfl) ?_
      refine W.ret ?_
      exact RetQ.k (v' := .bool true) (by rfl) (by kernel_rfl) (by kernel_rfl)

end
end Go.Abs
