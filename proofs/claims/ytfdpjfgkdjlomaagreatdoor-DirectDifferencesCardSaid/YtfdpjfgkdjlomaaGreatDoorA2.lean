/- A part of the proof of DirectDifferences: see the last text of this claim. -/
import Derived.RangeFuncRecord
import Derived.Test.YtfdpjfgkdjlomaaGreatDoorA1
namespace Go.Abs
noncomputable section
open Go
/-! ## The machine's steps, in a frame of any kind (a loop's round too) -/
/-- the frame b with this activation and this to do -/
def atR (b : Frame) (a : Act) (todo : List Item) : Frame := { fn := b.fn, tmps := a.tmps, todo, defers := a.defers, mode := .run, kind := b.kind, roundOf := b.roundOf }
theorem eval_atR (b : Frame) (a : Act) (todo : List Item) (x : Operand) : (atR b a todo).eval x = a.eval x := by cases x <;> rfl
theorem eval_atR' (b : Frame) (a : Act) (todo : List Item) : (atR b a todo).eval = a.eval := funext (eval_atR b a todo)

section
variable {P : Program} {b : Frame} {a : Act} {k : List Item} {cs : List Frame} {w : World}
theorem stp_skip : step P (lone (atR b a (.code .skip :: k)) cs w) = .next (lone (atR b a k) cs w) :=
  step_lone_go (by simp [stepG, stepG.exec, atR])
theorem stp_label {l : Nat} : step P (lone (atR b a (.code (.label l) :: k)) cs w) = .next (lone (atR b a k) cs w) :=
  step_lone_go (by simp [stepG, stepG.exec, atR])
theorem stp_inBlock {id : Nat} : step P (lone (atR b a (.inBlock id :: k)) cs w) = .next (lone (atR b a k) cs w) :=
  step_lone_go (by simp [stepG, stepG.exec, atR])
theorem stp_seq {x y : Code} : step P (lone (atR b a (.code (.seq x y) :: k)) cs w) = .next (lone (atR b a (.code x :: .code y :: k)) cs w) :=
  step_lone_go (by simp [stepG, stepG.exec, atR])
theorem stp_cond {c : Operand} {x y : Code} {t : Bool} (h : a.eval c = .bool t) :
    step P (lone (atR b a (.code (.cond c x y) :: k)) cs w) = .next (lone (atR b a (.code (if t then x else y) :: k)) cs w) :=
  step_lone_go (by
    have := eval_atR b a (.code (.cond c x y) :: k) c
    simp only [atR] at this
    simp [stepG, stepG.exec, atR, this, h])
theorem stp_block {id : Nat} {c : Code} : step P (lone (atR b a (.code (.block id c) :: k)) cs w) = .next (lone (atR b a (.code c :: .inBlock id :: k)) cs w) :=
  step_lone_go (by simp [stepG, stepG.exec, atR])
theorem stp_loop {c : Code} : step P (lone (atR b a (.code (.loop c) :: k)) cs w) = .next (lone (atR b a (.code c :: .inLoop c :: k)) cs w) :=
  step_lone_go (by simp [stepG, stepG.exec, atR])
theorem stp_inLoop {c : Code} : step P (lone (atR b a (.inLoop c :: k)) cs w) = .next (lone (atR b a (.code c :: .inLoop c :: k)) cs w) :=
  step_lone_go (by simp [stepG, stepG.exec, atR])
theorem stp_exit {id : Nat} {k' : List Item} (h : exitTo id k = some k') : step P (lone (atR b a (.code (.exit id) :: k)) cs w) = .next (lone (atR b a k') cs w) :=
  step_lone_go (by simp [stepG, stepG.exec, atR, h])
theorem stp_region {id : Nat} {ops : Array Oper} : step P (lone (atR b a (.code (.region id ops false) :: k)) cs w) = .next (lone (atR b a (.inRegion ops (List.range ops.size) :: k)) cs w) :=
  step_lone_go (by simp [stepG, stepG.exec, atR])
theorem stp_region_draw {id : Nat} {ops : Array Oper} :
    step P (lone (atR b a (.code (.region id ops true) :: k)) cs w) =
      .next (lone (atR b a (.inRegion ops (Region.schedule (P.follows .mixedOrders) ops (w.tape w.drawn (.order b.fn id))) :: k)) cs { w with drawn := w.drawn + 1 }) :=
  step_lone_go (by simp [stepG, stepG.exec, atR, choose, Sem.run, Question.forced, Question.cut])
theorem stp_region_end {ops : Array Oper} : step P (lone (atR b a (.inRegion ops [] :: k)) cs w) = .next (lone (atR b a k) cs w) :=
  step_lone_go (by simp [stepG, stepG.exec, atR])
theorem finish_atR (b : Frame) (a : Act) (ops : Array Oper) (i : Nat) (rest : List Nat) (k : List Item) (v : Value) :
    (atR b a (.inRegion ops (i :: rest) :: k)).finish v = atR b (a.put ((ops[i]?).bind (·.dst)) v) (.inRegion ops rest :: k) := by
  cases h : (ops[i]?).bind (·.dst) <;> simp [Frame.finish, atR, Act.put, h]
theorem stp_op_skip {ops : Array Oper} {i : Nat} {rest : List Nat} (h : ((ops[i]?).map (Region.wanted · (yielded ops a.tmps))).getD false = false) :
    step P (lone (atR b a (.inRegion ops (i :: rest) :: k)) cs w) = .next (lone (atR b (a.put ((ops[i]?).bind (·.dst)) undef) (.inRegion ops rest :: k)) cs w) := by
  rw [← finish_atR]
  exact step_lone_go (by
    have h' := h
    simp only [atR] at *
    simp [stepG, stepG.exec, h'])
theorem stpG_op {ops : Array Oper} {i : Nat} {rest : List Nat} {o : Oper} (ho : ops[i]? = some o) (hw : Region.wanted o (yielded ops a.tmps) = true) (hd : b.roundOf = none ∨ ∀ c, o.op ≠ .defer c) :
    stepG P true { frame := atR b a (.inRegion ops (i :: rest) :: k), callers := cs, status := .running, dying := none } w =
      stepG.apply P true (atR b a (.inRegion ops (i :: rest) :: k)) cs none (execOp a.eval o) w := by
  have he := eval_atR' b a (.inRegion ops (i :: rest) :: k)
  simp only [atR] at he
  rcases hd with hd | hd
  · rw [hd] at he
    simp [stepG, stepG.exec, stepG.oper, Frame.oper?, atR, ho, hw, he, hd]
  · simp [stepG, stepG.exec, stepG.oper, Frame.oper?, atR, ho, hw, he]
    split
    · rename_i hc; exact absurd hc (hd _)
    · rfl
end
end
end Go.Abs
namespace Go.Abs
noncomputable section
open Go
/-! ## What the interpreter's states and answers say of the machine -/
/-- the deferred calls (and the marks of loops over functions, behind which no call lies) -/
inductive DefR (n0 : Nat) (w : World) (F : Nat → Prop) (μ : Map) : List ADef → List Deferred → Prop
  | nil : DefR n0 w F μ [] []
  | call {f : FuncId} {args : List AV} {ds : List ADef} {cap as : Array Value} {cd : List Deferred} (h : RelL w F args μ (as ++ cap).toList) (t : DefR n0 w F μ ds cd) : DefR n0 w F μ ({ f, args } :: ds) ({ target := .fn (.func f) cap, args := as } :: cd)
  | mark {D : Nat} {ds : List ADef} {cd : List Deferred} (h : w.heap[D]? = some (.deferred (some []))) (hm : ∀ id o, μ id ≠ some (D, o)) (hF : ¬ F D) (hn : n0 ≤ D) (hlt : ∀ d ∈ cd, ∀ D', d.target = .collected D' → D' < D) (t : DefR n0 w F μ ds cd) : DefR n0 w F μ ds ({ target := .collected D, args := #[] } :: cd)

theorem DefR.mono {n0 : Nat} {w w' : World} {F F' : Nat → Prop} {μ μ' : Map} {h : Heap} (H : HRel w F μ h) (N : Go.Abs.Next w F μ w' F' μ') {ds : List ADef} {cd : List Deferred} (d : DefR n0 w F μ ds cd) : DefR n0 w' F' μ' ds cd := by
  induction d with
  | nil => exact .nil
  | call h _ ih => exact .call (RelL.mono _ (N.keeps H) _ h) ih
  | mark h hm hF hn hl _ ih =>
    rename_i D _ _ _
    have hlt : D < w.heap.size := (Array.getElem?_eq_some_iff.1 h).1
    refine .mark (by rw [N.keep D hlt hm]; exact h) (fun id o e => ?_) (fun e => ?_) hn hl ih
    · rcases N.new id D o e with ⟨i0, o0, h0⟩ | h0
      · exact hm i0 o0 h0
      · omega
    · rcases N.roNew D e with h0 | h0
      · exact hF h0
      · omega

/-- what 'recover' would find -/
def PnR (w : World) (F : Nat → Prop) (μ : Map) (b : Frame) (cs : List Frame) : Option AV → Prop
  | none => b.roundOf = none ∧ ∀ fr : Frame, fr.kind = b.kind → tryRecover fr cs = none
  | some (.tup _) => True
  | some v => b.roundOf = none ∧ b.kind = .deferred ∧ ∃ v' cs', recoverD cs = some (v', cs') ∧ Rel w F v μ v'

theorem PnR.mono {w w' : World} {F F' : Nat → Prop} {μ μ' : Map} (K : Keeps w F μ w' F' μ') {b : Frame} {cs : List Frame} {pn : Option AV} (p : PnR w F μ b cs pn) : PnR w' F' μ' b cs pn := by
  unfold PnR at *
  split at p
  · exact p
  · trivial
  · obtain ⟨h1, h2, v', cs', h3, h4⟩ := p
    exact ⟨h1, h2, v', cs', h3, Rel.mono _ K _ h4⟩

structure StR (b : Frame) (cs : List Frame) (w : World) (F : Nat → Prop) (μ : Map) (s : St) (a : Act) : Prop where
  size : a.tmps.size = s.n
  tm : TmR w F μ s.tm a.tmps
  heap : HRel w F μ s.h
  /-- (the size of the heap at the function's begin is kept as the size of b's temporaries, which nothing else looks at) -/
  ds : DefR b.tmps.size w F μ s.ds a.defers
  pn : PnR w F μ b cs s.pn
  base : b.tmps.size ≤ w.heap.size

/-- the callers: as they were, or the panic that was recovered -/
def CsR (cs : List Frame) (pn : Option AV) (cs' : List Frame) (pn' : Option AV) : Prop := (cs' = cs ∧ pn' = pn) ∨ (pn.isSome = true ∧ pn' = none ∧ ∃ v, recoverD cs = some (v, cs'))
theorem CsR.refl (cs : List Frame) (pn : Option AV) : CsR cs pn cs pn := .inl ⟨rfl, rfl⟩
theorem CsR.trans {cs cs' cs'' : List Frame} {pn pn' pn'' : Option AV} (h : CsR cs pn cs' pn') (k : CsR cs' pn' cs'' pn'') : CsR cs pn cs'' pn'' := by
  rcases h with ⟨rfl, rfl⟩ | ⟨h1, rfl, h2⟩
  · exact k
  · rcases k with ⟨rfl, rfl⟩ | ⟨k1, _⟩
    · exact .inr ⟨h1, rfl, h2⟩
    · cases k1

def Out.st : Out → St
  | .nrm s => s
  | .ext _ s => s
  | .gto _ s => s
  | .ret s => s
  | .pan _ s => s

/-- where the machine comes to -/
def Comes' (P : Program) (m : Machine) (b : Frame) (k : List Item) (cs : List Frame) (w : World) (F : Nat → Prop) (μ : Map) (a : Act) : Out → Prop
  | .nrm _ => Steps P m (lone (atR b a k) cs w)
  | .ext id _ => ∃ k', exitTo id k' = exitTo id k ∧ Steps P m (lone (atR b a (.code (.exit id) :: k')) cs w)
  | .gto l _ => ∃ k', gotoIn l k' = gotoIn l k ∧ Steps P m (lone (atR b a (.code (.goto l) :: k')) cs w)
  | .ret _ => ∃ k', Steps P m (lone (atR b a (.code .ret :: k')) cs w)
  | .pan v _ => ∃ v' todo, Rel w F v μ v' ∧ Steps P m (lone { atR b a todo with mode := .panicking [{ v := v', recovered := false }] } cs w)

/-- an answer of the interpreter is true of the machine -/
def Tells (C : Cfg) (m : Machine) (b : Frame) (k : List Item) (cs : List Frame) (w : World) (F : Nat → Prop) (μ : Map) (pn : Option AV) (out : Out) : Prop :=
  ∃ a' cs' w' F' μ', Go.Abs.Next w F μ w' F' μ' ∧ StR b cs' w' F' μ' out.st a' ∧ CsR cs pn cs' out.st.pn ∧ Comes' C.P m b k cs' w' F' μ' a' out

theorem Comes'.of_steps {P : Program} {m m' : Machine} {b : Frame} {k : List Item} {cs : List Frame} {w : World} {F : Nat → Prop} {μ : Map} {a : Act} {out : Out} (h : Steps P m m') (c : Comes' P m' b k cs w F μ a out) : Comes' P m b k cs w F μ a out := by
  cases out with
  | nrm s => exact h.trans c
  | ext id s => obtain ⟨k', e, c⟩ := c; exact ⟨k', e, h.trans c⟩
  | gto l s => obtain ⟨k', e, c⟩ := c; exact ⟨k', e, h.trans c⟩
  | ret s => obtain ⟨k', c⟩ := c; exact ⟨k', h.trans c⟩
  | pan v s => obtain ⟨v', todo, r, c⟩ := c; exact ⟨v', todo, r, h.trans c⟩

theorem Tells.of_steps {C : Cfg} {m m' : Machine} {b : Frame} {k : List Item} {cs : List Frame} {w : World} {F : Nat → Prop} {μ : Map} {pn : Option AV} {out : Out} (h : Steps C.P m m') (t : Tells C m' b k cs w F μ pn out) : Tells C m b k cs w F μ pn out := by
  obtain ⟨a', cs', w', F', μ', h1, h2, h3, h4⟩ := t
  exact ⟨a', cs', w', F', μ', h1, h2, h3, h4.of_steps h⟩

/-- a piece of the interpreter is sound for a piece of code -/
def Sound (C : Cfg) (c : Code) (f : St → Option Out) : Prop :=
  ∀ s out, f s = some out → ∀ (b : Frame) (k : List Item) (cs : List Frame) (w : World) (F : Nat → Prop) (μ : Map) (a : Act), GRel C w F → StR b cs w F μ s a → Tells C (lone (atR b a (.code c :: k)) cs w) b k cs w F μ s.pn out

theorem GRel.next {C : Cfg} {w w' : World} {F F' : Nat → Prop} {μ μ' : Map} {h : Heap} (G : GRel C w F) (H : HRel w F μ h) (N : Go.Abs.Next w F μ w' F' μ') : GRel C w' F' :=
  G.mono (N.keeps H) (N.keeps H).toNone

/-- an outcome that is not the normal one, seen from further out -/
theorem Comes'.pass {P : Program} {m : Machine} {b : Frame} {x : Item} {k : List Item} {cs : List Frame} {w : World} {F : Nat → Prop} {μ : Map} {a : Act} {out : Out} (hx : x.plain = true) (hn : ∀ s, out ≠ .nrm s) (c : Comes' P m b (x :: k) cs w F μ a out) : Comes' P m b k cs w F μ a out := by
  cases out with
  | nrm s => exact absurd rfl (hn s)
  | ext id s => obtain ⟨k', e, c⟩ := c; exact ⟨k', by rw [e]; cases x <;> simp_all [exitTo, Item.plain], c⟩
  | gto l s => obtain ⟨k', e, c⟩ := c; exact ⟨k', by rw [e]; cases x <;> simp_all [gotoIn, Item.plain], c⟩
  | ret s => exact c
  | pan v s => exact c

section
variable {C : Cfg}
theorem sound_skip : Sound C .skip (fun s => some (.nrm s)) := by
  intro s out e b k cs w F μ a G S
  cases e
  exact ⟨a, cs, w, F, μ, Next.refl w F μ, S, CsR.refl _ _, .one stp_skip⟩
theorem sound_label {l : Nat} : Sound C (.label l) (fun s => some (.nrm s)) := by
  intro s out e b k cs w F μ a G S
  cases e
  exact ⟨a, cs, w, F, μ, Next.refl w F μ, S, CsR.refl _ _, .one stp_label⟩
theorem sound_exit {id : Nat} : Sound C (.exit id) (fun s => some (.ext id s)) := by
  intro s out e b k cs w F μ a G S
  cases e
  exact ⟨a, cs, w, F, μ, Next.refl w F μ, S, CsR.refl _ _, k, rfl, .refl _ _⟩
theorem sound_goto {l : Nat} : Sound C (.goto l) (fun s => some (.gto l s)) := by
  intro s out e b k cs w F μ a G S
  cases e
  exact ⟨a, cs, w, F, μ, Next.refl w F μ, S, CsR.refl _ _, k, rfl, .refl _ _⟩
theorem sound_ret : Sound C .ret (fun s => some (.ret s)) := by
  intro s out e b k cs w F μ a G S
  cases e
  exact ⟨a, cs, w, F, μ, Next.refl w F μ, S, CsR.refl _ _, k, .refl _ _⟩

theorem Tells.then {m : Machine} {b : Frame} {k k' : List Item} {cs : List Frame} {w : World} {F : Nat → Prop} {μ : Map} {s s' : St} {a : Act} {out : Out} (G : GRel C w F) (S : StR b cs w F μ s a)
    (t : Tells C m b k' cs w F μ s.pn (.nrm s')) (h : ∀ (cs' : List Frame) (w' : World) (F' : Nat → Prop) (μ' : Map) (a' : Act), GRel C w' F' → StR b cs' w' F' μ' s' a' → Tells C (lone (atR b a' k') cs' w') b k cs' w' F' μ' s'.pn out) : Tells C m b k cs w F μ s.pn out := by
  obtain ⟨a1, cs1, w1, F1, μ1, N1, S1, R1, st⟩ := t
  obtain ⟨a2, cs2, w2, F2, μ2, N2, S2, R2, c2⟩ := h cs1 w1 F1 μ1 a1 (G.next S.heap N1) S1
  exact ⟨a2, cs2, w2, F2, μ2, N1.trans N2, S2, R1.trans R2, c2.of_steps st⟩

theorem sound_seq {x y : Code} {f g : St → Option Out} (hf : Sound C x f) (hg : Sound C y g) : Sound C (.seq x y) (fun s => match f s with | some (.nrm s) => g s | r => r) := by
  intro s out e b k cs w F μ a G S
  refine Tells.of_steps (.one stp_seq) ?_
  dsimp only at e
  split at e
  · rename_i s1 h1
    exact Tells.then G S (hf s _ h1 b (.code y :: k) cs w F μ a G S) fun cs' w' F' μ' a' G' S' => hg s1 out e b k cs' w' F' μ' a' G' S'
  · rename_i r hn
    obtain ⟨a1, cs1, w1, F1, μ1, N1, S1, R1, c1⟩ := hf s out e b (.code y :: k) cs w F μ a G S
    exact ⟨a1, cs1, w1, F1, μ1, N1, S1, R1, c1.pass rfl (fun s1 e1 => by subst e1; exact hn s1 e)⟩

theorem sound_cond {c : Operand} {x y : Code} {f g : St → Option Out} (hf : Sound C x f) (hg : Sound C y g) : Sound C (.cond c x y) (fun s => match evalO C s.tm c with | .bool t => (bif t then f s else g s) | _ => none) := by
  intro s out e b k cs w F μ a G S
  dsimp only at e
  split at e
  · rename_i t ht
    have hr := rel_operand (μ := μ) G S.tm c
    rw [ht] at hr
    have hc := rel_bool hr
    refine Tells.of_steps (.one (stp_cond hc)) ?_
    cases t with
    | true => exact hf s out e b k cs w F μ a G S
    | false => exact hg s out e b k cs w F μ a G S
  · cases e

theorem sound_block {id : Nat} {c : Code} {f : St → Option Out} (hf : Sound C c f) : Sound C (.block id c) (fun s => blockEnd id (f s)) := by
  intro s out e b k cs w F μ a G S
  refine Tells.of_steps (.one stp_block) ?_
  dsimp only at e
  unfold blockEnd at e
  split at e
  · rename_i j s1 h1
    obtain ⟨a1, cs1, w1, F1, μ1, N1, S1, R1, k', ek, c1⟩ := hf s _ h1 b (.inBlock id :: k) cs w F μ a G S
    cases hj : Nat.beq j id with
    | true =>
      rw [hj] at e; cases e
      obtain rfl := Nat.eq_of_beq_eq_true hj
      refine ⟨a1, cs1, w1, F1, μ1, N1, S1, R1, c1.trans (.one (stp_exit ?_))⟩
      rw [ek]; simp [exitTo]
    | false =>
      rw [hj] at e; cases e
      have hne : ¬ id = j := fun e => by subst e; rw [Nat.beq_refl] at hj; cases hj
      exact ⟨a1, cs1, w1, F1, μ1, N1, S1, R1, k', by rw [ek]; simp [exitTo, hne], c1⟩
  · rename_i r hn
    obtain ⟨a1, cs1, w1, F1, μ1, N1, S1, R1, c1⟩ := hf s out e b (.inBlock id :: k) cs w F μ a G S
    refine ⟨a1, cs1, w1, F1, μ1, N1, S1, R1, ?_⟩
    cases out with
    | nrm s1 => exact Steps.trans c1 (.one stp_inBlock)
    | ext j s1 => exact absurd e (hn j s1)
    | gto l s1 => obtain ⟨k', ek, c1⟩ := c1; exact ⟨k', by rw [ek]; simp [gotoIn], c1⟩
    | ret s1 => exact c1
    | pan v s1 => exact c1

theorem sound_loop {c : Code} {f : St → Option Out} (hf : Sound C c f) (n : Nat) : Sound C (.loop c) (fun s => iterA f n s) := by
  have key : ∀ n s out, iterA f n s = some out → ∀ (b : Frame) (k : List Item) (cs : List Frame) (w : World) (F : Nat → Prop) (μ : Map) (a : Act), GRel C w F → StR b cs w F μ s a → Tells C (lone (atR b a (.code c :: .inLoop c :: k)) cs w) b k cs w F μ s.pn out := by
    intro n
    induction n with
    | zero => intro s out e; cases e
    | succ n ih =>
      intro s out e b k cs w F μ a G S
      have hstep : iterA f (n + 1) s = (match f s with | some (.nrm s) => iterA f n s | r => r) := rfl
      rw [hstep] at e
      split at e
      · rename_i s1 h1
        exact Tells.then G S (hf s _ h1 b (.inLoop c :: k) cs w F μ a G S) fun cs' w' F' μ' a' G' S' => Tells.of_steps (.one stp_inLoop) (ih s1 out e b k cs' w' F' μ' a' G' S')
      · rename_i r hn
        obtain ⟨a1, cs1, w1, F1, μ1, N1, S1, R1, c1⟩ := hf s out e b (.inLoop c :: k) cs w F μ a G S
        exact ⟨a1, cs1, w1, F1, μ1, N1, S1, R1, c1.pass rfl (fun s1 e1 => by subst e1; exact hn s1 e)⟩
  intro s out e b k cs w F μ a G S
  exact Tells.of_steps (.one stp_loop) (key n s out e b k cs w F μ a G S)

/-! ### what a loop's round leaves behind -/
def cutM (n0 : Nat) (μ : Map) : Map := fun id => if id < n0 then μ id else .none
theorem cutM_some {n0 : Nat} {μ : Map} {id : Nat} {x : Nat × Nat} (h : cutM n0 μ id = some x) : id < n0 ∧ μ id = some x := by
  unfold cutM at h
  by_cases hi : id < n0
  · rw [if_pos hi] at h; exact ⟨hi, h⟩
  · rw [if_neg hi] at h; cases h
theorem cutM_of {n0 : Nat} {μ : Map} {id : Nat} {x : Nat × Nat} (hi : id < n0) (h : μ id = some x) : cutM n0 μ id = some x := by unfold cutM; rw [if_pos hi]; exact h
theorem lowA_sound {w : World} {F : Nat → Prop} {μ : Map} {n0 : Nat} : ∀ (n : Nat) (x : AV) (v : Value), lowA n0 n x = true → Rel w F x μ v → Rel w F x (cutM n0 μ) v := by
  intro n
  induction n with
  | zero => intro x v e; cases e
  | succ n ih =>
    have hl : ∀ (l : List AV) (vs : List Value), (List.rec true (fun c _ r => lowA n0 n c && r) l : Bool) = true → RelL w F l μ vs → RelL w F l (cutM n0 μ) vs := by
      intro l
      induction l with
      | nil => intro vs _ r; unfold RelL at r ⊢; exact r
      | cons c l ihl =>
        intro vs e r
        have e : (lowA n0 n c && (List.rec true (fun c _ r => lowA n0 n c && r) l : Bool)) = true := e
        rw [Bool.and_eq_true] at e
        unfold RelL at r ⊢
        obtain ⟨v, us, rfl, r1, r2⟩ := r
        exact ⟨v, us, rfl, ih c v e.1 r1, ihl us e.2 r2⟩
    intro x v e r
    cases x with
    | ptrO id off =>
      have e : Nat.ble (Nat.succ id) n0 = true := e
      unfold Rel at r ⊢
      obtain ⟨b, o, h1, h2⟩ := r
      exact ⟨b, o, cutM_of (Nat.le_of_ble_eq_true e) h1, h2⟩
    | slO id off es len cap ex =>
      have e : Nat.ble (Nat.succ id) n0 = true := e
      unfold Rel at r ⊢
      obtain ⟨b, o, a, c, h1, h2⟩ := r
      exact ⟨b, o, a, c, cutM_of (Nat.le_of_ble_eq_true e) h1, h2⟩
    | agg cs => unfold Rel at r ⊢; obtain ⟨vs, h1, h2, h3⟩ := r; exact ⟨vs, h1, hl _ _ e h2, h3⟩
    | tup cs => unfold Rel at r ⊢; obtain ⟨vs, h1, h2⟩ := r; exact ⟨vs, h1, hl _ _ e h2⟩
    | fn f a b =>
      have e : (notYield f && ((List.rec true (fun c _ r => lowA n0 n c && r) a : Bool) && (List.rec true (fun c _ r => lowA n0 n c && r) b : Bool))) = true := e
      simp only [Bool.and_eq_true] at e
      unfold Rel at r ⊢
      obtain ⟨g, a', b', h1, h2, h3, h4⟩ := r
      refine ⟨g, a', b', h1, ?_, hl _ _ e.2.1 h3, hl _ _ e.2.2 h4⟩
      cases f with
      | yield id => exact absurd e.1 (by unfold notYield; simp)
      | _ => exact h2
    | ifc t v => unfold Rel at r ⊢; obtain ⟨y, h1, h2⟩ := r; exact ⟨y, h1, ih v y e h2⟩
    | dead => unfold Rel; trivial
    | bool _ => unfold Rel at r ⊢; exact r
    | int _ _ => unfold Rel at r ⊢; exact r
    | str _ => unfold Rel at r ⊢; exact r
    | nilp => unfold Rel at r ⊢; exact r
    | ptrR _ _ => unfold Rel at r ⊢; exact r
    | nils => unfold Rel at r ⊢; exact r
    | slR _ _ _ _ _ => unfold Rel at r ⊢; exact r
    | slT _ _ _ => unfold Rel at r ⊢; exact r
    | nilf => unfold Rel at r ⊢; exact r
    | nili => unfold Rel at r ⊢; exact r
theorem lowL_get {n0 : Nat} : ∀ {l : List AV}, lowL n0 l = true → ∀ (i : Nat) a, l[i]? = some a → lowA n0 16 a = true
  | [], _, i, a, h => by simp at h
  | c :: l, e, i, a, h => by
    have e : (lowA n0 16 c && lowL n0 l) = true := e
    rw [Bool.and_eq_true] at e
    cases i with
    | zero => simp at h; rw [← h]; exact e.1
    | succ i => exact lowL_get e.2 i a (by simpa using h)
theorem lowT_get {n0 : Nat} : ∀ (t : T AV), lowT n0 t = true → ∀ i a, t.get i = some a → lowA n0 16 a = true
  | .leaf, _, i, a, h => by simp at h
  | .node l v r, e, i, a, h => by
    have e : (lowO n0 v && (lowT n0 l && lowT n0 r)) = true := e
    simp only [Bool.and_eq_true] at e
    have h : (bif Nat.beq i 0 then v else bif Nat.beq (Nat.mod i 2) 1 then l.get (Nat.div i 2) else r.get (Nat.sub (Nat.div i 2) 1)) = some a := h
    cases h1 : Nat.beq i 0 with
    | true => rw [h1] at h; simp only [cond_true] at h; rw [h] at e; exact e.1
    | false =>
      rw [h1] at h
      simp only [cond_false] at h
      cases h2 : Nat.beq (Nat.mod i 2) 1 with
      | true => rw [h2] at h; exact lowT_get l e.2.1 _ a h
      | false => rw [h2] at h; exact lowT_get r e.2.2 _ a h
theorem lowB_get {n0 : Nat} {h : Heap} : ∀ (m : Nat), (Nat.rec true (fun j ih => (match h.get j with | some b => lowL n0 b.cells && (match b.kind with | .loop .. => false | _ => true) | none => true) && ih) m : Bool) = true → ∀ id b, id < m → h.get id = some b → lowL n0 b.cells = true ∧ ∀ n tm ps x y j st, b.kind ≠ .loop n tm ps x y j st
  | 0, _, id, b, hi, _ => absurd hi (Nat.not_lt_zero _)
  | m + 1, e, id, b, hi, hb => by
    have e : ((match h.get m with | some b => lowL n0 b.cells && (match b.kind with | .loop .. => false | _ => true) | none => true) && (Nat.rec true (fun j ih => (match h.get j with | some b => lowL n0 b.cells && (match b.kind with | .loop .. => false | _ => true) | none => true) && ih) m : Bool)) = true := e
    rw [Bool.and_eq_true] at e
    by_cases hm : id = m
    · subst hm
      have e1 := e.1
      rw [hb] at e1
      simp only [Bool.and_eq_true] at e1
      refine ⟨e1.1, fun n tm ps x y j st hk => ?_⟩
      rw [hk] at e1
      cases e1.2
    · exact lowB_get m e.2 id b (by omega) hb
theorem cutH_get {h : Heap} {id : Nat} {b : Blk} (n0 : Nat) (e : (cutH n0 h).get id = some b) : id < n0 ∧ h.get id = some b := by
  have key : ∀ m, ∀ b, (Nat.rec T.leaf (fun j t => match h.get j with | some b => t.put j b | none => t) m : T Blk).get id = some b → id < m ∧ h.get id = some b := by
    intro m
    induction m with
    | zero => intro b e; cases e
    | succ m ih =>
      intro b e
      have e : (match h.get m with | some b => (Nat.rec T.leaf (fun j t => match h.get j with | some b => t.put j b | none => t) m : T Blk).put m b | none => (Nat.rec T.leaf (fun j t => match h.get j with | some b => t.put j b | none => t) m : T Blk)).get id = some b := e
      split at e
      · rename_i b' hb
        rw [T.get_put] at e
        by_cases hi : id = m
        · subst hi
          rw [if_pos rfl] at e
          cases e
          exact ⟨Nat.lt_succ_self _, hb⟩
        · rw [if_neg hi] at e
          obtain ⟨h1, h2⟩ := ih b e
          exact ⟨Nat.lt_succ_of_lt h1, h2⟩
      · obtain ⟨h1, h2⟩ := ih b e
        exact ⟨Nat.lt_succ_of_lt h1, h2⟩
  exact key n0 b e
theorem HRel.cut {w : World} {F : Nat → Prop} {μ : Map} {h : Heap} {n0 : Nat} (H : HRel w F μ h) (hl : lowB n0 h = true) : HRel w F (cutM n0 μ) (cutH n0 h) where
  row := fun id b e hk => by
    obtain ⟨hi, hb⟩ := cutH_get n0 e
    obtain ⟨c, o, h1, cells, el, fr, h2, h3, h4, h5⟩ := H.row id b hb hk
    exact ⟨c, o, cutM_of hi h1, cells, el, fr, h2, h3, fun i a ha => by
      obtain ⟨v, q1, q2⟩ := h4 i a ha
      exact ⟨v, q1, lowA_sound _ _ _ (lowL_get (lowB_get n0 hl id b hi hb).1 i a ha) q2⟩, h5⟩
  iter := fun id b s p e hk => by
    obtain ⟨hi, hb⟩ := cutH_get n0 e
    obtain ⟨c, o, h1, h2⟩ := H.iter id b s p hb hk
    exact ⟨c, o, cutM_of hi h1, h2⟩
  loop := fun id b n tm ps x y j st e hk => by
    obtain ⟨hi, hb⟩ := cutH_get n0 e
    exact absurd hk ((lowB_get n0 hl id b hi hb).2 n tm ps x y j st)
  grp := fun i j bi bj c oi oj hi hj li lj mi mj => H.grp i j bi bj c oi oj (cutH_get n0 hi).2 (cutH_get n0 hj).2 li lj (cutM_some mi).2 (cutM_some mj).2
  typ := fun id b e hk c o hm => H.typ id b (cutH_get n0 e).2 hk c o (cutM_some hm).2
  lt := fun id b e => (cutH_get n0 e).1
  fresh := fun id x e => (cutM_some e).1
  dom := fun id c o e => H.dom id c o (cutM_some e).2
  sep := fun b hb => ⟨(H.sep b hb).1, fun id o e => (H.sep b hb).2 id o (cutM_some e).2⟩
theorem DefR.cut {n0 n : Nat} {w : World} {F : Nat → Prop} {μ : Map} {cd : List Deferred} (d : DefR n w F μ [] cd) : DefR n w F (cutM n0 μ) [] cd := by
  generalize hds : ([] : List ADef) = ds at d
  induction d with
  | nil => exact .nil
  | call h _ ih => cases hds
  | mark h hm hF hn hl _ ih => exact .mark h (fun id o e => hm id o (cutM_some e).2) hF hn hl (ih hds)
theorem StR.cut {n0 : Nat} {b : Frame} {cs : List Frame} {w : World} {F : Nat → Prop} {μ : Map} {s : St} {a : Act} (S : StR b cs w F μ s a) (h : trimO n0 s = true) : StR b cs w F (cutM n0 μ) { n := s.n, tm := s.tm, h := cutH n0 s.h, ds := s.ds, pn := s.pn } a := by
  unfold trimO at h
  simp only [Bool.and_eq_true] at h
  obtain ⟨h1, h2, h3, h4⟩ := h
  rw [List.isEmpty_iff] at h3
  rw [Option.isNone_iff_eq_none] at h4
  refine ⟨S.size, fun i x hi => ?_, S.heap.cut h2, ?_, ?_, S.base⟩
  · obtain ⟨v, q1, q2⟩ := S.tm i x hi
    exact ⟨v, q1, lowA_sound _ _ _ (lowT_get _ h1 i x hi) q2⟩
  · have := S.ds
    rw [h3] at this
    show DefR _ w F _ s.ds _
    rw [h3]
    exact this.cut
  · have := S.pn
    rw [h4] at this
    show PnR w F _ b cs s.pn
    rw [h4]
    exact this
theorem Next.cut {n0 : Nat} {w w' : World} {F F' : Nat → Prop} {μ μ' : Map} (N : Go.Abs.Next w F μ w' F' μ') (hμ : ∀ id x, μ id = some x → id < n0) : Go.Abs.Next w F μ w' F' (cutM n0 μ') where
  size := N.size
  os := N.os
  tape := N.tape
  output := N.output
  keep := N.keep
  map := fun id x e => cutM_of (hμ id x e) (N.map id x e)
  new := fun id c o e => N.new id c o (cutM_some e).2
  ro := N.ro
  roNew := N.roNew
  rows := N.rows
theorem StR.forget {A : Nat} {b : Frame} {cs : List Frame} {w : World} {F : Nat → Prop} {μ : Map} {s : St} {a : Act} (S : StR b cs w F μ s a) (n : Nat) (hn : n ≤ s.n) : StR b cs w F μ { n := s.n, tm := forgetT A n s.tm, h := s.h, ds := s.ds, pn := s.pn } a := by
  refine ⟨S.size, ?_, S.heap, S.ds, S.pn, S.base⟩
  show TmR w F μ (forgetT A n s.tm) a.tmps
  induction n with
  | zero => exact S.tm
  | succ n ih =>
    have ih := ih (by omega)
    have e : forgetT A (n + 1) s.tm = (bif Nat.testBit A n then (forgetT A n s.tm).put n .dead else forgetT A n s.tm) := rfl
    rw [e]
    cases Nat.testBit A n with
    | false => exact ih
    | true =>
      simp only [cond_true]
      intro i y hy
      rw [T.get_put] at hy
      by_cases hi : i = n
      · subst hi
        rw [if_pos rfl] at hy
        cases hy
        have : i < a.tmps.size := by rw [S.size]; omega
        exact ⟨a.tmps[i], Array.getElem?_eq_getElem this, by unfold Rel; trivial⟩
      · rw [if_neg hi] at hy
        exact ih i y hy
/-- dropped, but for what was there before -/
theorem StR.trim {n0 A : Nat} {b : Frame} {cs : List Frame} {w0 w : World} {F0 F : Nat → Prop} {μ0 μ : Map} {s : St} {a : Act} (S : StR b cs w F μ s a) (N : Go.Abs.Next w0 F0 μ0 w F μ) (hμ : ∀ id x, μ0 id = some x → id < n0) : ∃ μ', StR b cs w F μ' (trimS n0 A s) a ∧ Go.Abs.Next w0 F0 μ0 w F μ' := by
  have S1 := S.forget (A := A) s.n (Nat.le_refl _)
  cases hz : Nat.beq s.h.next n0 with
  | true =>
    refine ⟨μ, ?_, N⟩
    unfold trimS trim1
    simp only [hz]
    exact S1
  | false =>
  cases ht : trimO n0 { n := s.n, tm := forgetT A s.n s.tm, h := s.h, ds := s.ds, pn := s.pn } with
  | true =>
    refine ⟨cutM n0 μ, ?_, N.cut hμ⟩
    have := S1.cut ht
    unfold trimS trim1
    simp only [hz, ht]
    exact this
  | false =>
    refine ⟨μ, ?_, N⟩
    unfold trimS trim1
    simp only [hz, ht]
    exact S1
theorem Comes'.map {P : Program} {m : Machine} {b : Frame} {k : List Item} {cs : List Frame} {w : World} {F : Nat → Prop} {μ μ' : Map} {a : Act} {s s' : St} (c : Comes' P m b k cs w F μ a (.nrm s)) : Comes' P m b k cs w F μ' a (.nrm s') := c
theorem sound_trim {c : Code} {f : St → Option Out} (A : Nat) (hf : Sound C c f) : Sound C c (fun s => trimO' A s (f s)) := by
  intro s out e b k cs w F μ a G S
  have e : trimO' A s (f s) = some out := e
  unfold trimO' at e
  split at e
  · rename_i s1 h1
    cases e
    obtain ⟨a1, cs1, w1, F1, μ1, N1, S1, R1, c1⟩ := hf s _ h1 b k cs w F μ a G S
    obtain ⟨μ2, S2, N2⟩ := StR.trim (n0 := s.h.next) (A := A) S1 N1 S.heap.fresh
    exact ⟨a1, cs1, w1, F1, μ2, N2, S2, R1, c1⟩
  · rename_i r hr
    exact hf s out e b k cs w F μ a G S
theorem StR.forgetR {tr : Bool} {ops : Array Oper} {b : Frame} {cs : List Frame} {w : World} {F : Nat → Prop} {μ : Map} {s : St} {a : Act} (S : StR b cs w F μ s a) : StR b cs w F μ (forgetR tr ops s) a := by
  unfold Go.Abs.forgetR
  cases tr && !(Nat.beq (grdM ops.toList) 0) with
  | true => exact S.forget s.n (Nat.le_refl _)
  | false => exact S
theorem sound_regO {c : Code} {f : St → Option Out} (tr : Bool) (ops : Array Oper) (hf : Sound C c f) : Sound C c (fun s => regO tr ops (f s)) := by
  intro s out e b k cs w F μ a G S
  have e : regO tr ops (f s) = some out := e
  unfold regO at e
  split at e
  · rename_i o h1
    cases e
    have h := hf s _ h1 b k cs w F μ a G S
    cases o with
    | nrm s1 =>
      obtain ⟨a1, cs1, w1, F1, μ1, N1, S1, R1, c1⟩ := h
      refine ⟨a1, cs1, w1, F1, μ1, N1, S1.forgetR, ?_, c1⟩
      have : (forgetR tr ops s1).pn = s1.pn := by
        unfold forgetR
        cases tr && !(Nat.beq (grdM ops.toList) 0) <;> rfl
      show CsR cs s.pn cs1 (forgetR tr ops s1).pn
      rw [this]
      exact R1
    | _ => exact h
  · cases e
theorem sound_loopA {c : Code} {f : St → Option Out} (hf : Sound C c f) (tr : Bool) (A n : Nat) : Sound C (.loop c) (fun s => loopA tr A f n s) := by
  cases tr with
  | false => exact sound_loop hf n
  | true =>
    intro s out e b k cs w F μ a G S
    obtain ⟨μ2, S2, N2⟩ := StR.trim (n0 := s.h.next) (A := A) S (Next.refl w F μ) S.heap.fresh
    obtain ⟨a1, cs1, w1, F1, μ1, N1, S1, R1, c1⟩ := sound_loop (sound_trim A hf) n _ out e b k cs w F μ2 a G S2
    exact ⟨a1, cs1, w1, F1, μ1, N2.trans N1, S1, R1, c1⟩
end
end
end Go.Abs
namespace Go.Abs
noncomputable section
open Go
/-! ## Calls -/
def Res.h : Res → Heap
  | .val _ h _ => h
  | .pan _ h _ => h
def Res.pn : Res → Option AV
  | .val _ _ p => p
  | .pan _ _ p => p

/-- a call's end, as the interpreter has it -/
def EndR (w : World) (F : Nat → Prop) (μ : Map) (res : Res) (e : Ending) : Prop :=
  match res with
  | .val a _ _ => ∃ v, e = .returned v ∧ Rel w F a μ v
  | .pan a _ _ => ∃ v, e = .panicked [{ v, recovered := false }] ∧ Rel w F a μ v

def kindFrame (kind : CallKind) : Frame := { (default : Frame) with kind, roundOf := none }

/-- what is known of a call -/
def CallOk (C : Cfg) (f : FuncId) (args : List AV) (h : Heap) (pn : Option AV) (res : Res) : Prop :=
  ∀ (w : World) (F : Nat → Prop) (μ : Map) (vs : Array Value), GRel C w F → HRel w F μ h → RelL w F args μ vs.toList →
    (∃ v w' F' μ' a h', (callFunc f vs).run C.P w = .ok (.value v) w' ∧ res = .val a h' pn ∧ Go.Abs.Next w F μ w' F' μ' ∧ HRel w' F' μ' h' ∧ Rel w' F' a μ' v) ∨
    ((callFunc f vs).run C.P w = .ok (.enter f vs) w ∧ ∀ (kind : CallKind) (cs : List Frame), (kind = .normal ∨ kind = .deferred ∧ C.nodef f = false) → PnR w F μ (kindFrame kind) cs pn →
      ∃ e fr cs' w' F' μ', Go.Abs.Next w F μ w' F' μ' ∧ HRel w' F' μ' res.h ∧ CsR cs pn cs' res.pn ∧ PnR w' F' μ' (kindFrame kind) cs' res.pn ∧
        Steps C.P (lone (Frame.enter C.P f vs kind) cs w) (lone fr cs' w') ∧ fr.fn = f ∧ fr.kind = kind ∧ fr.going C.P w' e ∧ EndR w' F' μ' res e)

/-- what is known of a round of a loop over a function -/
def YieldOk (C : Cfg) (id : Nat) (args : List AV) (h : Heap) (res : Res) : Prop :=
  ∀ (w : World) (F : Nat → Prop) (μ : Map) (vs : Array Value), GRel C w F → HRel w F μ h → RelL w F args μ vs.toList →
    ∀ (l o : Nat), μ id = some (l, o) → ∃ f tmps x y, (Instr.yield l vs).run C.P w = .ok (.round l f tmps x y) w ∧
      ∀ (c : Frame) (cs : List Frame), ∃ w' F' μ', Go.Abs.Next w F μ w' F' μ' ∧ HRel w' F' μ' res.h ∧
        match res with
        | .val a _ _ => ∃ v, Rel w' F' a μ' v ∧ Steps C.P (lone (Frame.round l f tmps x y .normal) (c :: cs) w) (lone (c.finish v) cs w')
        | .pan a _ _ => ∃ v, Rel w' F' a μ' v ∧ Steps C.P (lone (Frame.round l f tmps x y .normal) (c :: cs) w) (lone (c.raise [{ v, recovered := false }]) cs w')

structure FnsOk (C : Cfg) (Fn : Fns) : Prop where
  call : ∀ f args h pn res, Fn.call f args h pn = some res → CallOk C f args h pn res
  exec : ∀ c, Sound C c (Fn.exec c)
  yield : ∀ id args h res, Fn.yield id args h = some res → YieldOk C id args h res

theorem fnsOk_none (C : Cfg) : FnsOk C Fns.none where
  call := by intro f args h pn res e; cases e
  exec := by intro c s out e; cases e
  yield := by intro id args h res e; cases e

section
variable {P : Program} {b : Frame} {a : Act} {k : List Item} {cs : List Frame} {w w' : World} {ops : Array Oper} {i : Nat} {rest : List Nat} {o : Oper}
theorem finish_op (ho : ops[i]? = some o) (v : Value) : (atR b a (.inRegion ops (i :: rest) :: k)).finish v = atR b (a.put o.dst v) (.inRegion ops rest :: k) := by
  rw [finish_atR, ho]; rfl

theorem stp_value (ho : ops[i]? = some o) (hw : Region.wanted o (yielded ops a.tmps) = true) (hd : b.roundOf = none ∨ ∀ c, o.op ≠ .defer c) {v : Value} (hr : (execOp a.eval o).run P w = .ok (.value v) w') :
    step P (lone (atR b a (.inRegion ops (i :: rest) :: k)) cs w) = .next (lone (atR b (a.put o.dst v) (.inRegion ops rest :: k)) cs w') := by
  refine step_lone_go ?_
  rw [stpG_op ho hw hd, ← finish_op ho]; simp [stepG.apply, hr]
theorem stp_unit (ho : ops[i]? = some o) (hw : Region.wanted o (yielded ops a.tmps) = true) (hd : b.roundOf = none ∨ ∀ c, o.op ≠ .defer c) (hr : (execOp a.eval o).run P w = .ok .skip w') :
    step P (lone (atR b a (.inRegion ops (i :: rest) :: k)) cs w) = .next (lone (atR b (a.put o.dst undef) (.inRegion ops rest :: k)) cs w') := by
  refine step_lone_go ?_
  rw [stpG_op ho hw hd, ← finish_op ho]; simp [stepG.apply, hr]
theorem stp_panic (ho : ops[i]? = some o) (hw : Region.wanted o (yielded ops a.tmps) = true) (hd : b.roundOf = none ∨ ∀ c, o.op ≠ .defer c) {v : Value} (hr : (execOp a.eval o).run P w = .halt (.panic v) w') :
    step P (lone (atR b a (.inRegion ops (i :: rest) :: k)) cs w) = .next (lone { atR b a (.inRegion ops (i :: rest) :: k) with mode := .panicking [{ v, recovered := false }] } cs w') := by
  refine step_lone_go ?_
  rw [stpG_op ho hw hd]; simp [stepG.apply, hr, Frame.raise, atR]
theorem stp_enter (ho : ops[i]? = some o) (hw : Region.wanted o (yielded ops a.tmps) = true) (hd : b.roundOf = none ∨ ∀ c, o.op ≠ .defer c) {f : FuncId} {args : Array Value} (hr : (execOp a.eval o).run P w = .ok (.enter f args) w') :
    step P (lone (atR b a (.inRegion ops (i :: rest) :: k)) cs w) = .next (lone (Frame.enter P f args .normal) (atR b a (.inRegion ops (i :: rest) :: k) :: cs) w') := by
  refine step_lone_go ?_
  rw [stpG_op ho hw hd]; simp [stepG.apply, hr, atR]
theorem stp_round (ho : ops[i]? = some o) (hw : Region.wanted o (yielded ops a.tmps) = true) (hd : b.roundOf = none ∨ ∀ c, o.op ≠ .defer c) {l : Nat} {f : FuncId} {tmps : Array Value} {x y : Code} (hr : (execOp a.eval o).run P w = .ok (.round l f tmps x y) w') :
    step P (lone (atR b a (.inRegion ops (i :: rest) :: k)) cs w) = .next (lone (Frame.round l f tmps x y .normal) (atR b a (.inRegion ops (i :: rest) :: k) :: cs) w') := by
  refine step_lone_go ?_
  rw [stpG_op ho hw hd]; simp [stepG.apply, hr, atR]
theorem stp_defer (ho : ops[i]? = some o) (hw : Region.wanted o (yielded ops a.tmps) = true) (hd : b.roundOf = none) {d : Deferred} (hr : (execOp a.eval o).run P w = .ok (.defer d) w') :
    step P (lone (atR b a (.inRegion ops (i :: rest) :: k)) cs w) = .next (lone (atR b ({ a with defers := d :: a.defers }.put o.dst undef) (.inRegion ops rest :: k)) cs w') := by
  refine step_lone_go ?_
  have : ({ atR b a (.inRegion ops (i :: rest) :: k) with defers := d :: a.defers } : Frame).finish undef = atR b ({ a with defers := d :: a.defers }.put o.dst undef) (.inRegion ops rest :: k) := by
    have := finish_atR b { a with defers := d :: a.defers } ops i rest k undef
    rw [ho] at this; exact this
  rw [stpG_op ho hw (.inl hd)]
  simp only [stepG.apply, Sem.runT_eq, hr, GStep.bare_after]
  exact congrArg (fun fr => GStep.go { frame := fr, callers := cs, status := .running, dying := none } w') this
theorem stp_recover (ho : ops[i]? = some o) (hw : Region.wanted o (yielded ops a.tmps) = true) (hd : b.roundOf = none) (hr : (execOp a.eval o).run P w = .ok .recover w') :
    step P (lone (atR b a (.inRegion ops (i :: rest) :: k)) cs w) = .next (match tryRecover (atR b a (.inRegion ops (i :: rest) :: k)) cs with
      | some (v, cs') => lone (atR b (a.put o.dst v) (.inRegion ops rest :: k)) cs' w'
      | none => lone (atR b (a.put o.dst .nilIface) (.inRegion ops rest :: k)) cs w') := by
  have hro : (atR b a (.inRegion ops (i :: rest) :: k)).roundOf = none := hd
  cases ht : tryRecover (atR b a (.inRegion ops (i :: rest) :: k)) cs with
  | none =>
    simp only
    refine step_lone_go ?_
    rw [stpG_op ho hw (.inl hd), ← finish_op ho]
    simp [stepG.apply, hr, hro, ht]
  | some x =>
    obtain ⟨v, cs'⟩ := x
    simp only
    refine step_lone_go ?_
    rw [stpG_op ho hw (.inl hd), ← finish_op ho]
    simp [stepG.apply, hr, hro, ht]
end
end
end Go.Abs
namespace Go.Abs
noncomputable section
open Go
section
variable {C : Cfg} {w : World} {F : Nat → Prop} {μ : Map}
theorem StR.set {b : Frame} {cs cs' : List Frame} {w' : World} {F' : Nat → Prop} {μ' : Map} {s : St} {a : Act} (S : StR b cs w F μ s a) (N : Go.Abs.Next w F μ w' F' μ') {h' : Heap} (H : HRel w' F' μ' h') (d : Option Tmp) {x : AV} {v : Value} (r : Rel w' F' x μ' v)
    (hp : PnR w' F' μ' b cs' s.pn) : StR b cs' w' F' μ' (s.set d x h') (a.put d v) := by
  have K := N.keeps S.heap
  cases d with
  | none => exact ⟨S.size, S.tm.mono K, H, S.ds.mono S.heap N, hp, Nat.le_trans S.base N.size⟩
  | some d =>
    unfold St.set Act.put
    simp only
    cases hd : Nat.ble (Nat.succ d) s.n with
    | true =>
      have hlt : d < a.tmps.size := by have := Nat.le_of_ble_eq_true hd; rw [S.size]; exact this
      refine ⟨by simpa using S.size, ?_, H, S.ds.mono S.heap N, hp, Nat.le_trans S.base N.size⟩
      intro i y hi
      simp only [cond_true] at hi
      rw [T.get_put] at hi
      by_cases e : i = d
      · subst e
        rw [if_pos rfl] at hi; cases hi
        exact ⟨v, by simp [hlt], r⟩
      · rw [if_neg e] at hi
        obtain ⟨u, q1, q2⟩ := S.tm i y hi
        exact ⟨u, by simp [Array.getElem?_setIfInBounds, Ne.symm e, q1], Rel.mono _ K _ q2⟩
    | false =>
      have hge : ¬ d < a.tmps.size := by
        intro hlt
        have : Nat.ble (Nat.succ d) s.n = true := Nat.ble_eq_true_of_le (by rw [← S.size]; exact hlt)
        rw [this] at hd; cases hd
      refine ⟨by simpa using S.size, ?_, H, S.ds.mono S.heap N, hp, Nat.le_trans S.base N.size⟩
      intro i y hi
      simp only [cond_false] at hi
      obtain ⟨u, q1, q2⟩ := S.tm i y hi
      have hlt := (Array.getElem?_eq_some_iff.1 q1).1
      have hne : d ≠ i := fun e => hge (by rw [e]; exact hlt)
      exact ⟨u, by simp [Array.getElem?_setIfInBounds, hne, q1], Rel.mono _ K _ q2⟩

theorem set_pn (s : St) (d : Option Tmp) (x : AV) (h : Heap) : (s.set d x h).pn = s.pn := by
  unfold St.set
  split
  · cases Nat.ble (Nat.succ _) s.n <;> rfl
  · rfl

variable {b : Frame} {a : Act} {k : List Item} {cs : List Frame} {ops : Array Oper} {i : Nat} {rest : List Nat} {o : Oper} {s : St} {Fn : Fns}
/-- an operation that ends as OpOk says -/
theorem tells_op (ho : ops[i]? = some o) (hw : Region.wanted o (yielded ops a.tmps) = true) (hd : ∀ c, o.op ≠ .defer c) (S : StR b cs w F μ s a) {x : AV} {h' : Heap} (k1 : OpOk C w F μ (execOp a.eval o) x h') :
    Tells C (lone (atR b a (.inRegion ops (i :: rest) :: k)) cs w) b (.inRegion ops rest :: k) cs w F μ s.pn (.nrm (s.set o.dst x h')) := by
  obtain ⟨nx, w', μ', hr, hv, N, H⟩ := k1
  have K := N.keeps S.heap
  rcases hv with ⟨v, rfl, r⟩ | ⟨rfl, r⟩
  · exact ⟨a.put o.dst v, cs, w', F, μ', N, S.set N H o.dst r (S.pn.mono K), .inl ⟨rfl, set_pn _ _ _ _⟩, .one (stp_value ho hw (.inr hd) hr)⟩
  · exact ⟨a.put o.dst undef, cs, w', F, μ', N, S.set N H o.dst r (S.pn.mono K), .inl ⟨rfl, set_pn _ _ _ _⟩, .one (stp_unit ho hw (.inr hd) hr)⟩

theorem putO_some {d : Option Tmp} {r : OR} {out : Out} (e : putO s d r = some out) : ∃ x h', r = some (x, h') ∧ out = .nrm (s.set d x h') := by
  unfold putO at e
  split at e
  · cases e; exact ⟨_, _, rfl, rfl⟩
  · cases e

theorem relL_append3 {as bs cs' : List AV} {x y z : Array Value} (h1 : RelL w F as μ x.toList) (h2 : RelL w F bs μ y.toList) (h3 : RelL w F cs' μ z.toList) : RelL w F (as ++ bs ++ cs') μ (x ++ y ++ z).toList := by
  simp only [Array.toList_append]
  exact RelL.append (RelL.append h1 h2) h3

/-- a call of a function -/
theorem tells_call (K : FnsOk C Fn) (ho : ops[i]? = some o) (hw : Region.wanted o (yielded ops a.tmps) = true) (hd : ∀ c, o.op ≠ .defer c) (G : GRel C w F) (S : StR b cs w F μ s a) {g : FuncId} {args : List AV} {vs : Array Value} (rv : RelL w F args μ vs.toList)
    (hrun : (execOp a.eval o).run C.P w = (callFunc g vs).run C.P w) {out : Out} (e : goOn s o.dst (Fn.call g args s.h none) = some out) :
    Tells C (lone (atR b a (.inRegion ops (i :: rest) :: k)) cs w) b (.inRegion ops rest :: k) cs w F μ s.pn out := by
  cases hres : Fn.call g args s.h none with
  | none => rw [hres] at e; cases e
  | some res =>
    rw [hres] at e
    rcases K.call g args s.h none res hres w F μ vs G S.heap rv with ⟨v, w', F', μ', x, h', hc, rfl, N, H, r⟩ | ⟨hc, hgo⟩
    · cases e
      have Kp := N.keeps S.heap
      exact ⟨a.put o.dst v, cs, w', F', μ', N, S.set N H o.dst r (S.pn.mono Kp), .inl ⟨rfl, set_pn _ _ _ _⟩, .one (stp_value ho hw (.inr hd) (hrun.trans hc))⟩
    · obtain ⟨en, fr, cs', w', F', μ', N, H, R, _, st, hfn, hkind, hgoing, hend⟩ := hgo .normal (atR b a (.inRegion ops (i :: rest) :: k) :: cs) (.inl rfl) ⟨rfl, fun fr hfr => by unfold tryRecover; rw [hfr]; rfl⟩
      have hcs : cs' = atR b a (.inRegion ops (i :: rest) :: k) :: cs := by
        rcases R with ⟨h, _⟩ | ⟨h, _⟩
        · exact h
        · cases h
      subst hcs
      have Kp := N.keeps S.heap
      have h1 := stp_enter (b := b) (cs := cs) (k := k) (rest := rest) ho hw (.inr hd) (hrun.trans hc)
      cases res with
      | val x h' p =>
        obtain ⟨v, rfl, r⟩ := hend
        cases e
        obtain ⟨g1, g2, g3⟩ := hgoing
        have h2 := step_leave_returned (c := atR b a (.inRegion ops (i :: rest) :: k)) (cs := cs) (show fr.leaving C.P w' (.returned v) from ⟨g1, g2, hkind, g3⟩)
        rw [finish_op ho] at h2
        exact ⟨a.put o.dst v, cs, w', F', μ', N, S.set N H o.dst r (S.pn.mono Kp), .inl ⟨rfl, set_pn _ _ _ _⟩, .head h1 (st.trans (.one h2))⟩
      | pan x h' p =>
        obtain ⟨v, rfl, r⟩ := hend
        cases e
        have h2 := step_leave_panicked (c := atR b a (.inRegion ops (i :: rest) :: k)) (cs := cs) (show fr.leaving C.P w' (.panicked [{ v, recovered := false }]) from hgoing)
        exact ⟨a, cs, w', F', μ', N, ⟨S.size, S.tm.mono Kp, H, S.ds.mono S.heap N, S.pn.mono Kp, Nat.le_trans S.base N.size⟩, CsR.refl _ _, v, _, r, .head h1 (st.trans (.one h2))⟩

/-- a call of a loop's body -/
theorem tells_yield (K : FnsOk C Fn) (ho : ops[i]? = some o) (hw : Region.wanted o (yielded ops a.tmps) = true) (hd : ∀ c, o.op ≠ .defer c) (G : GRel C w F) (S : StR b cs w F μ s a) {id l lo : Nat} (hm : μ id = some (l, lo)) {args : List AV} {vs : Array Value} (rv : RelL w F args μ vs.toList)
    (hrun : (execOp a.eval o).run C.P w = (Instr.yield l vs).run C.P w) {out : Out} (e : goOn s o.dst (Fn.yield id args s.h) = some out) :
    Tells C (lone (atR b a (.inRegion ops (i :: rest) :: k)) cs w) b (.inRegion ops rest :: k) cs w F μ s.pn out := by
  cases hres : Fn.yield id args s.h with
  | none => rw [hres] at e; cases e
  | some res =>
    rw [hres] at e
    obtain ⟨f, tmps, x, y, hy, hgo⟩ := K.yield id args s.h res hres w F μ vs G S.heap rv l lo hm
    obtain ⟨w', F', μ', N, H, hend⟩ := hgo (atR b a (.inRegion ops (i :: rest) :: k)) cs
    have Kp := N.keeps S.heap
    have h1 := stp_round (b := b) (cs := cs) (k := k) (rest := rest) ho hw (.inr hd) (hrun.trans hy)
    cases res with
    | val z h' p =>
      obtain ⟨v, r, st⟩ := hend
      cases e
      rw [finish_op ho] at st
      exact ⟨a.put o.dst v, cs, w', F', μ', N, S.set N H o.dst r (S.pn.mono Kp), .inl ⟨rfl, set_pn _ _ _ _⟩, .head h1 st⟩
    | pan z h' p =>
      obtain ⟨v, r, st⟩ := hend
      cases e
      exact ⟨a, cs, w', F', μ', N, ⟨S.size, S.tm.mono Kp, H, S.ds.mono S.heap N, S.pn.mono Kp, Nat.le_trans S.base N.size⟩, CsR.refl _ _, v, _, r, .head h1 st⟩
end
end
end Go.Abs
namespace Go.Abs
noncomputable section
open Go
section
variable {C : Cfg} {w : World} {F : Nat → Prop} {μ : Map}
variable {b : Frame} {a : Act} {k : List Item} {cs : List Frame} {ops : Array Oper} {i : Nat} {rest : List Nat} {o : Oper} {s : St} {Fn : Fns}
theorem rel_ifc {t : TypeId} {x : AV} {v : Value} (r : Rel w F (.ifc t x) μ v) : ∃ y, v = .iface t y := by
  unfold Rel at r; obtain ⟨y, rfl, _⟩ := r; exact ⟨y, rfl⟩

theorem tells_panic (ho : ops[i]? = some o) (hw : Region.wanted o (yielded ops a.tmps) = true) (hd : ∀ c, o.op ≠ .defer c) (S : StR b cs w F μ s a) {x : AV} {v : Value} (r : Rel w F x μ v) {out : Out} (e : panO x s = some out)
    (hrun : ∀ t y, v = .iface t y → (execOp a.eval o).run C.P w = .halt (.panic v) w) : Tells C (lone (atR b a (.inRegion ops (i :: rest) :: k)) cs w) b (.inRegion ops rest :: k) cs w F μ s.pn out := by
  unfold panO at e
  split at e
  · cases e
    obtain ⟨y, rfl⟩ := rel_ifc r
    exact ⟨a, cs, w, F, μ, Next.refl w F μ, S, CsR.refl _ _, _, _, r, .one (stp_panic ho hw (.inr hd) (hrun _ _ rfl))⟩
  · cases e

theorem exec_builtin {c : Call} (hop : o.op = .call c) {bi : Builtin} (hc : c.callee = .builtin bi) : (execOp a.eval o).run C.P w = (builtin bi c.argTypes o.type (c.args.map fun | .const _ => true | _ => false) (c.args.map a.eval)).run C.P w := by
  unfold execOp
  rw [hop]
  simp only [resolve, hc, Sem.run_bind, Sem.run_pure, Result.andThen_ok, invoke]
  rfl

theorem exec_value {c : Call} (hop : o.op = .call c) {f : Operand} (hc : c.callee = .value f) {g : FuncId} {x y : Array Value} (hf : a.eval f = .func (.func g) x y) : (execOp a.eval o).run C.P w = (callFunc g (x ++ c.args.map a.eval ++ y)).run C.P w := by
  unfold execOp
  rw [hop]
  simp only [resolve, hc, hf, Deferred.ofValue, Sem.run_bind, Sem.run_pure, Result.andThen_ok, invoke]
theorem exec_yield {c : Call} (hop : o.op = .call c) {f : Operand} (hc : c.callee = .value f) {l : Nat} (hf : a.eval f = .func (.yield l) #[] #[]) : (execOp a.eval o).run C.P w = (Instr.yield l (c.args.map a.eval)).run C.P w := by
  unfold execOp
  rw [hop]
  simp only [resolve, hc, hf, Deferred.ofValue, Sem.run_bind, Sem.run_pure, Result.andThen_ok, invoke, Array.empty_append]
theorem exec_defer {c : Call} (hop : o.op = .defer c) {f : Operand} (hc : c.callee = .value f) {g : FuncId} {x y : Array Value} (hf : a.eval f = .func (.func g) x y) : (execOp a.eval o).run C.P w = .ok (.defer { target := .fn (.func g) y, args := x ++ c.args.map a.eval }) w := by
  unfold execOp
  rw [hop]
  simp only [resolve, hc, hf, Deferred.ofValue, Sem.run_bind, Sem.run_pure, Result.andThen_ok]

theorem calleeA_inl {f : AV} {args args' : List AV} {g : FuncId} {v : Value} {vs : Array Value} (e : calleeA f args = some (.inl g, args')) (r : Rel w F f μ v) (rv : RelL w F args μ vs.toList) : ∃ x y, v = .func (.func g) x y ∧ RelL w F args' μ (x ++ vs ++ y).toList := by
  unfold calleeA at e
  split at e
  · cases e
    unfold Rel at r
    obtain ⟨g', x, y, rfl, r1, r2, r3⟩ := r
    unfold RelFn at r1
    simp only at r1
    subst r1
    exact ⟨x, y, rfl, relL_append3 r2 rv r3⟩
  · cases e
  · cases e

theorem calleeA_inr {f : AV} {args args' : List AV} {id : Nat} {v : Value} (e : calleeA f args = some (.inr id, args')) (r : Rel w F f μ v) : ∃ l lo, μ id = some (l, lo) ∧ v = .func (.yield l) #[] #[] ∧ args' = args := by
  unfold calleeA at e
  split at e
  · cases e
  · cases e
    unfold Rel at r
    obtain ⟨g', x, y, rfl, r1, r2, r3⟩ := r
    unfold RelFn at r1
    obtain ⟨l, lo, hm, rfl⟩ := r1
    unfold RelL at r2 r3
    exact ⟨l, lo, hm, by rw [show x = #[] from Array.toList_eq_nil_iff.1 r2, show y = #[] from Array.toList_eq_nil_iff.1 r3], rfl⟩
  · cases e

theorem evalArgs (G : GRel C w F) (S : StR b cs w F μ s a) (l : Array Operand) : RelL w F (evalL C s.tm l.toList) μ (l.map a.eval).toList := rel_array G S.tm l

/-- one operation -/
theorem oper_sound (K : FnsOk C Fn) (ho : ops[i]? = some o) (hw : Region.wanted o (yielded ops a.tmps) = true) (G : GRel C w F) (S : StR b cs w F μ s a) {out : Out} (e : operA C Fn o s = some out) :
    Tells C (lone (atR b a (.inRegion ops (i :: rest) :: k)) cs w) b (.inRegion ops rest :: k) cs w F μ s.pn out := by
  unfold operA at e
  split at e
  · -- a call
    rename_i c hop
    have hd : ∀ c, o.op ≠ .defer c := by intro c' h; rw [hop] at h; cases h
    unfold callOp at e
    split at e
    · rename_i bi hc
      split at e
      · -- recover
        have hrun : (execOp a.eval o).run C.P w = .ok .recover w := by rw [exec_builtin hop hc]; rfl
        unfold recoverA at e
        have hp := S.pn
        split at e
        · cases e
        · rename_i v hnt hpn
          cases e
          rw [hpn] at hp
          unfold PnR at hp
          have hp : b.roundOf = none ∧ b.kind = .deferred ∧ ∃ v' cs', recoverD cs = some (v', cs') ∧ Rel w F v μ v' := by
            split at hp
            · rename_i h; cases h
            · rename_i vs h; cases h; exact (hnt _ rfl).elim
            · rename_i h; cases h; exact hp
          obtain ⟨h1, h2, v', cs', h3, h4⟩ := hp
          have ht : tryRecover (atR b a (.inRegion ops (i :: rest) :: k)) cs = some (v', cs') := (tryRecover_deferred (fr := atR b a (.inRegion ops (i :: rest) :: k)) h2 cs).trans h3
          have hst := stp_recover (cs := cs) (k := k) (rest := rest) ho hw h1 hrun
          rw [ht] at hst
          have S' : StR b cs' w F μ { n := s.n, tm := s.tm, h := s.h, ds := s.ds, pn := none } a := ⟨S.size, S.tm, S.heap, S.ds, ⟨h1, fun fr hfr => by
            rw [tryRecover_deferred (by rw [hfr]; exact h2)]
            unfold recoverD at h3
            split at h3
            · rename_i caller rs
              split at h3
              · cases h3; rfl
              · cases h3
            · cases h3⟩, S.base⟩
          have S2 := S'.set (Next.refl w F μ) S.heap o.dst h4 S'.pn
          exact ⟨_, cs', w, F, μ, Next.refl w F μ, S2, .inr ⟨by rw [hpn]; rfl, set_pn _ _ _ _, v', h3⟩, .one hst⟩
        · rename_i hpn
          cases e
          rw [hpn] at hp
          obtain ⟨h1, h2⟩ := hp
          have ht : tryRecover (atR b a (.inRegion ops (i :: rest) :: k)) cs = none := h2 _ rfl
          have hst := stp_recover (cs := cs) (k := k) (rest := rest) ho hw h1 hrun
          rw [ht] at hst
          exact ⟨_, cs, w, F, μ, Next.refl w F μ, S.set (Next.refl w F μ) S.heap o.dst mk_nili S.pn, .inl ⟨rfl, set_pn _ _ _ _⟩, .one hst⟩
      · -- panic
        split at e
        · rename_i v hv
          have hr := evalArgs G S c.args
          rw [hv] at hr
          obtain ⟨u, hu, ru⟩ := relL_one hr
          refine tells_panic ho hw hd S ru e fun t y he => ?_
          rw [exec_builtin hop hc, hu, he]
          rfl
        · cases e
      · obtain ⟨x, h', e1, rfl⟩ := putO_some e
        refine tells_op ho hw hd S ?_
        obtain ⟨nx, w', μ', q1, q2⟩ := builtin_sound (C := C) (ty := o.type) (cs := c.args.map fun | .const _ => true | _ => false) S.heap (evalArgs G S c.args) e1
        exact ⟨nx, w', μ', (exec_builtin hop hc).trans q1, q2⟩
    · rename_i f hc
      have hf := rel_operand (μ := μ) G S.tm f
      split at e
      · rename_i g args hg
        obtain ⟨x, y, hx, rv⟩ := calleeA_inl hg hf (evalArgs G S c.args)
        exact tells_call K ho hw hd G S rv (exec_value hop hc hx) e
      · rename_i id args hg
        obtain ⟨l, lo, hm, hx, rfl⟩ := calleeA_inr hg hf
        exact tells_yield K ho hw hd G S hm (evalArgs G S c.args) (exec_yield hop hc hx) e
      · cases e
    · cases e
  · -- a deferred call
    rename_i c hop
    unfold deferOp at e
    split at e
    · cases e
    · rename_i hnt
      split at e
      · rename_i f hc
        have hf := rel_operand (μ := μ) G S.tm f
        split at e
        · rename_i g args hg
          cases hb : bodied C g with
          | false => rw [hb] at e; cases e
          | true =>
            rw [hb] at e
            cases e
            obtain ⟨x, y, hx, rv⟩ := calleeA_inl hg hf (evalArgs G S c.args)
            have hro : b.roundOf = none := by
              have hp := S.pn
              unfold PnR at hp
              split at hp
              · exact hp.1
              · rename_i vs h; exact absurd h (hnt _)
              · exact hp.1
            have S' : StR b cs w F μ { n := s.n, tm := s.tm, h := s.h, ds := { f := g, args } :: s.ds, pn := s.pn } { a with defers := { target := .fn (.func g) y, args := x ++ c.args.map a.eval } :: a.defers } := ⟨S.size, S.tm, S.heap, .call rv S.ds, S.pn, S.base⟩
            exact ⟨_, cs, w, F, μ, Next.refl w F μ, S'.set (Next.refl w F μ) S.heap o.dst mk_unit S.pn, .inl ⟨rfl, set_pn _ _ _ _⟩, .one (stp_defer ho hw hro (exec_defer hop hc hx))⟩
        · cases e
      · cases e
  · -- panic
    rename_i x hop
    have hd : ∀ c, o.op ≠ .defer c := by intro c' h; rw [hop] at h; cases h
    refine tells_panic ho hw hd S (rel_operand (μ := μ) G S.tm x) e fun t y he => ?_
    unfold execOp
    rw [hop]
    simp only [he]
    rfl
  · rename_i h1 h2 h3
    have hd : ∀ c, o.op ≠ .defer c := fun c h => h2 c h
    obtain ⟨x, h', e1, rfl⟩ := putO_some e
    exact tells_op ho hw hd S (opA_sound G S.heap S.tm e1)
end
end
end Go.Abs
namespace Go.Abs
noncomputable section
open Go
section
variable {C : Cfg} {w : World} {F : Nat → Prop} {μ : Map}
variable {Fn : Fns}
theorem guardTmp_eq (ops : Array Oper) (j : Nat) : (ops[j]?).bind (·.dst) = guardTmp ops j := by
  unfold guardTmp
  cases ops[j]? <;> rfl

theorem wantedA_sound {ops : Array Oper} {tm : T AV} {tmps : Array Value} {o : Oper} {t : Bool} (ht : TmR w F μ tm tmps) (e : wantedA ops tm o = some t) : Region.wanted o (yielded ops tmps) = t := by
  unfold wantedA at e
  unfold Region.wanted
  split at e
  · rename_i hg; rw [hg]; cases e; rfl
  · rename_i j want hg
    rw [hg]
    simp only
    unfold yielded
    rw [guardTmp_eq]
    split at e
    · rename_i q hq
      rw [hq]
      simp only [Option.bind_some]
      split at e
      · rename_i bb hb
        cases e
        obtain ⟨v, h1, h2⟩ := ht q _ hb
        rw [h1, rel_bool h2]
        cases bb <;> cases want <;> rfl
      · rename_i vs hb
        cases e
        obtain ⟨v, h1, h2⟩ := ht q _ hb
        obtain ⟨us, rfl, _⟩ := rel_tup h2
        rw [h1]
        cases want <;> rfl
      · cases e
    · rename_i hq
      rw [hq]
      cases e
      cases want <;> rfl

theorem opsA_cons (ops : Array Oper) (o : Oper) (l : List Oper) (s : St) : opsA C Fn ops (o :: l) s = (match wantedA ops s.tm o with
    | some true => match operA C Fn o s with
      | some (.nrm s) => opsA C Fn ops l s
      | r => r
    | some false => opsA C Fn ops l (s.set o.dst (.tup []) s.h)
    | none => none) := rfl

theorem ops_sound (K : FnsOk C Fn) (ops : Array Oper) : ∀ (l : List Oper) (i : Nat), ops.toList.drop i = l → ∀ s out, opsA C Fn ops l s = some out → ∀ (b : Frame) (k : List Item) (cs : List Frame) (w : World) (F : Nat → Prop) (μ : Map) (a : Act), GRel C w F → StR b cs w F μ s a →
    Tells C (lone (atR b a (.inRegion ops (List.range' i l.length) :: k)) cs w) b k cs w F μ s.pn out
  | [], i, _, s, out, e, b, k, cs, w, F, μ, a, G, S => by
    cases e
    exact ⟨a, cs, w, F, μ, Next.refl w F μ, S, CsR.refl _ _, .one stp_region_end⟩
  | o :: l, i, hl, s, out, e, b, k, cs, w, F, μ, a, G, S => by
    have ho : ops[i]? = some o := by
      rw [← Array.getElem?_toList]
      have : (ops.toList.drop i)[0]? = some o := by rw [hl]; rfl
      rwa [List.getElem?_drop, Nat.add_zero] at this
    have hl' : ops.toList.drop (i + 1) = l := by
      have : (ops.toList.drop i).drop 1 = l := by rw [hl]; rfl
      rwa [List.drop_drop] at this
    rw [opsA_cons] at e
    simp only [List.length_cons, List.range'_succ]
    split at e
    · rename_i hw
      have hw := wantedA_sound S.tm hw
      split at e
      · rename_i s1 h1
        exact Tells.then G S (oper_sound K ho hw G S h1) fun cs' w' F' μ' a' G' S' => ops_sound K ops l (i + 1) hl' s1 out e b k cs' w' F' μ' a' G' S'
      · rename_i r hn
        obtain ⟨a1, cs1, w1, F1, μ1, N1, S1, R1, c1⟩ := oper_sound (k := k) (rest := List.range' (i + 1) l.length) K ho hw G S e
        exact ⟨a1, cs1, w1, F1, μ1, N1, S1, R1, c1.pass rfl (fun s1 e1 => by subst e1; exact hn s1 e)⟩
    · rename_i hw
      have hw := wantedA_sound S.tm hw
      have hst : step C.P (lone (atR b a (.inRegion ops (i :: List.range' (i + 1) l.length) :: k)) cs w) = .next (lone (atR b (a.put o.dst undef) (.inRegion ops (List.range' (i + 1) l.length) :: k)) cs w) := by
        have := stp_op_skip (P := C.P) (b := b) (a := a) (k := k) (cs := cs) (w := w) (ops := ops) (i := i) (rest := List.range' (i + 1) l.length) (by rw [ho]; simpa using hw)
        rw [ho] at this
        exact this
      have S' : StR b cs w F μ (s.set o.dst (.tup []) s.h) (a.put o.dst undef) := S.set (Next.refl w F μ) S.heap o.dst mk_unit S.pn
      have := ops_sound K ops l (i + 1) hl' _ out e b k cs w F μ _ G S'
      rw [set_pn] at this
      exact Tells.of_steps (.one hst) this
    · cases e

theorem sound_region {ops : Array Oper} {id : Nat} (K : FnsOk C Fn) : Sound C (.region id ops false) (fun s => opsA C Fn ops ops.toList s) := by
  intro s out e b k cs w F μ a G S
  refine Tells.of_steps (.one stp_region) ?_
  have := ops_sound K ops ops.toList 0 rfl s out e b k cs w F μ a G S
  rw [Array.length_toList, ← List.range_eq_range'] at this
  exact this
end
end
end Go.Abs
namespace Go.Abs
noncomputable section
open Go
section
variable {C : Cfg} {Fn : Fns}
theorem sound_none (c : Code) : Sound C c (fun _ => none) := by intro s out e; cases e

theorem sound_region_any {ops : Array Oper} {id : Nat} {dr : Bool} (K : FnsOk C Fn) (hdraw : ∀ id ops, Sound C (.region id ops true) (drawA C Fn ops)) : Sound C (.region id ops dr) (fun s => bif dr then drawA C Fn ops s else regO C.trim ops (opsA C Fn ops ops.toList s)) := by
  cases dr with
  | true => exact hdraw id ops
  | false => exact sound_regO C.trim ops (sound_region K)

/-- the interpreter of code is sound, where its drawn regions and its loops over functions are -/
theorem exec_sound (K : FnsOk C Fn) (hdraw : ∀ id ops, Sound C (.region id ops true) (drawA C Fn ops)) (hrange : ∀ f ps x y, Sound C (.rangeFunc f ps x y) (rangeA C Fn f ps x y)) : ∀ c : Code, Sound C c (execA C Fn c) := by
  intro c
  induction c with
  | skip => exact sound_skip
  | region id ops dr => exact sound_region_any K hdraw
  | seq x y hx hy => exact sound_seq hx hy
  | cond c x y hx hy => exact sound_cond hx hy
  | block id c h => exact sound_block h
  | loop c h => exact sound_loopA h C.trim (lvLoop c) C.loops
  | rangeFunc f ps x y _ _ => exact hrange f ps x y
  | exit id => exact sound_exit
  | scope c _ => exact sound_none _
  | label l => exact sound_label
  | goto l => exact sound_goto
  | ret => exact sound_ret
  | refuse why => exact sound_none _
end
end
end Go.Abs
namespace Go.Abs
noncomputable section
open Go
section
variable {C : Cfg} {w : World} {F : Nat → Prop} {μ : Map} {h : Heap} {Fn : Fns}
/-! ## A function's end -/
def resM (tmps : Array Value) (r : ResultVar) : Sem Value :=
  match r with
  | .tmp t => pure (tmps.getD t undef)
  | .cell a t => do loadVar t (← asAddr (tmps.getD a undef))

theorem loadAt_asAddr {t : TypeId} {v u : Value} {P : Program} (e : (Instr.loadAt t v).run P w = .ok u w) : (do loadVar t (← asAddr v) : Sem Value).run P w = .ok u w := by
  cases v with
  | pointer p =>
    cases p with
    | some a => exact e
    | none => simp [Instr.loadAt, Instr.sureAddr, stuck, Sem.run] at e
  | _ => simp [Instr.loadAt, Instr.sureAddr, stuck, Sem.run] at e

theorem resultsA_sound (H : HRel w F μ h) {tm : T AV} {tmps : Array Value} (ht : TmR w F μ tm tmps) : ∀ (l : List ResultVar) (as : List AV), resultsA C h tm l = some as → ∃ vs, (l.mapM (resM tmps)).run C.P w = .ok vs w ∧ RelL w F as μ vs
  | [], as, e => by cases e; exact ⟨[], by simp, by unfold RelL; rfl⟩
  | r :: l, as, e => by
    unfold resultsA at e
    split at e
    · rename_i v vs hv hvs
      cases e
      obtain ⟨us, q1, q2⟩ := resultsA_sound H ht l vs hvs
      have : ∃ u, (resM tmps r).run C.P w = .ok u w ∧ Rel w F v μ u := by
        cases r with
        | tmp t =>
          obtain ⟨u, h1, h2⟩ := ht t v hv
          refine ⟨u, ?_, h2⟩
          simp [resM, Array.getD_eq_getD_getElem?, h1]
        | cell c t =>
          simp only at hv
          split at hv
          · rename_i p hp
            obtain ⟨u, h1, h2⟩ := ht c p hp
            obtain ⟨z, h3, h4⟩ := load_sound (C := C) H h2 hv
            refine ⟨z, ?_, h4⟩
            have : tmps.getD c undef = u := by simp [Array.getD_eq_getD_getElem?, h1]
            simp only [resM, this]
            exact loadAt_asAddr h3
          · cases hv
      obtain ⟨u, r1, r2⟩ := this
      refine ⟨u :: us, by simp [List.mapM_cons, r1, q1], ?_⟩
      unfold RelL
      exact ⟨u, us, rfl, r2, q2⟩
    · cases e

theorem results_eq (fn : Func) (tmps : Array Value) : results fn tmps = (do let vs ← fn.results.mapM (resM tmps); pure (if h : vs.size = 1 then vs[0] else .tuple vs)) := by
  unfold results
  congr 1

/-- one result as it is, several (or none) as a tuple -/
def oneOrTup : List AV → AV
  | [v] => v
  | vs => .tup vs

theorem results_sound (H : HRel w F μ h) {tm : T AV} {tmps : Array Value} (ht : TmR w F μ tm tmps) {fn : Func} {as : List AV} {x : AV} (e : resultsA C h tm fn.results.toList = some as) (hx : x = oneOrTup as) : ∃ v, (results fn tmps).run C.P w = .ok v w ∧ Rel w F x μ v := by
  obtain ⟨vs, q1, q2⟩ := resultsA_sound (C := C) H ht _ _ e
  rw [results_eq]
  have hl := (RelL.get q2).1
  subst hx
  have hrun : (fn.results.mapM (resM tmps)).run C.P w = .ok vs.toArray w := by
    rw [Array.mapM_eq_mapM_toList]; simp [q1]
  rw [Sem.run_bind, hrun, Result.andThen_ok, Sem.run_pure]
  match as, vs, q2, hl with
  | [a], [v], q2, _ =>
    unfold RelL at q2
    obtain ⟨u, us, e, r, _⟩ := q2
    cases e
    exact ⟨v, rfl, r⟩
  | [], [], q2, _ => exact ⟨.tuple #[], rfl, by unfold Rel; exact ⟨#[], rfl, q2⟩⟩
  | a1 :: a2 :: as, v1 :: v2 :: vs, q2, _ => exact ⟨.tuple (v1 :: v2 :: vs).toArray, by simp, by unfold Rel; exact ⟨_, rfl, q2⟩⟩
end
end
end Go.Abs
namespace Go.Abs
noncomputable section
open Go
section
variable {C : Cfg} {Fn : Fns}
theorem stp_mark {P : Program} {fr : Frame} {cs : List Frame} {w : World} {D : Nat} {ds : List Deferred} (hm : fr.mode ≠ .run) (hd : fr.defers = { target := .collected D, args := #[] } :: ds) (hD : w.heap[D]? = some (.deferred (some []))) :
    step P (lone fr cs w) = .next (lone { fr with defers := ds } cs (w.putObj D (.deferred none))) := by
  refine step_lone_go ?_
  have hr := run_takeDeferred (P := P) hD
  cases hmode : fr.mode with
  | run => exact absurd hmode hm
  | returning => simp [stepG, unwind, hmode, hd, hr]
  | panicking chain => simp [stepG, unwind, hmode, hd, hr]

/-- the frame's mode, by the panic that is under way -/
def ModeR (w : World) (F : Nat → Prop) (μ : Map) (m : FrameMode) : Option AV → Prop
  | none => m = .returning
  | some v => ∃ v', m = .panicking [{ v := v', recovered := false }] ∧ Rel w F v μ v'

/-- a block that no one maps and that is not read only becomes another -/
theorem Keeps.putOther {w : World} {F : Nat → Prop} {μ : Map} {D : Nat} (hm : ∀ id o, μ id ≠ some (D, o)) (hF : ¬ F D) (ob : Obj) : Keeps w F μ (w.putObj D ob) F μ where
  ro := fun b hb => ⟨hb, World.putObj_heap_other (fun e => hF (by rw [← e]; exact hb))⟩
  map := Map.le_refl _
  rows := fun id b o hi c e f hc => ⟨c, e, f, by rw [World.putObj_heap_other (fun e => hm id o (by rw [← e]; exact hi))]; exact hc, rfl⟩

theorem HRel.putOther {w : World} {F : Nat → Prop} {μ : Map} {h : Heap} (H : HRel w F μ h) {D : Nat} (hm : ∀ id o, μ id ≠ some (D, o)) (hF : ¬ F D) (ob : Obj) : HRel (w.putObj D ob) F μ h := by
  have K := Keeps.putOther (w := w) hm hF ob
  have other : ∀ id c o, μ id = some (c, o) → (w.putObj D ob).heap[c]? = w.heap[c]? := fun id c o hi => World.putObj_heap_other (fun e => hm id o (by rw [← e]; exact hi))
  refine ⟨?_, ?_, ?_, H.grp, ?_, H.lt, H.fresh, ?_, ?_⟩
  · intro id b hb hk
    obtain ⟨c, o, m, cells, el, fr, q1, q2, q3, q4, q5⟩ := H.row id b hb hk
    exact ⟨c, o, m, cells, el, fr, by rw [other id c o m]; exact q1, q2, fun i a hi => let ⟨v, r1, r2⟩ := q3 i a hi; ⟨v, r1, Rel.mono a K v r2⟩, q4, q5⟩
  · intro id b t p hb hk
    obtain ⟨c, o, m, q1, q2⟩ := H.iter id b t p hb hk
    exact ⟨c, o, m, by rw [other id c o m]; exact q1, q2⟩
  · intro id b n tm ps x y j st hb hk
    obtain ⟨c, o, m, f, tmps, d, q1, q2, q3⟩ := H.loop id b n tm ps x y j st hb hk
    exact ⟨c, o, m, f, tmps, d, by rw [other id c o m]; exact q1, q2, q3.mono K⟩
  · intro id b hb hk c o m
    obtain ⟨cells, fr, q1, q2⟩ := H.typ id b hb hk c o m
    exact ⟨cells, fr, by rw [other id c o m]; exact q1, q2⟩
  · intro id c o m; rw [World.putObj_size]; exact H.dom id c o m
  · intro b hb; rw [World.putObj_size]; exact H.sep b hb

theorem DefR.putOther {n0 : Nat} {w : World} {F : Nat → Prop} {μ : Map} {D : Nat} (hm : ∀ id o, μ id ≠ some (D, o)) (hF : ¬ F D) (ob : Obj) {ds : List ADef} {cd : List Deferred} (d : DefR n0 w F μ ds cd) (hne : ∀ d ∈ cd, ∀ D', d.target = .collected D' → D' < D) : DefR n0 (w.putObj D ob) F μ ds cd := by
  have K := Keeps.putOther (w := w) hm hF ob
  induction d with
  | nil => exact .nil
  | call h _ ih => exact .call (RelL.mono _ K _ h) (ih fun d hd => hne d (List.mem_cons_of_mem _ hd))
  | mark h hm' hF' hn hl _ ih =>
    rename_i D' _ _ _
    have hlt : D' < D := hne _ (List.mem_cons_self ..) D' rfl
    exact .mark (by rw [World.putObj_heap_other (by omega)]; exact h) hm' hF' hn hl (ih fun d hd => hne d (List.mem_cons_of_mem _ hd))

theorem Next.putOther {w0 w : World} {F0 F : Nat → Prop} {μ0 μ : Map} (N : Go.Abs.Next w0 F0 μ0 w F μ) {D : Nat} (hD : w0.heap.size ≤ D) {ob0 : Obj} (h0 : w.heap[D]? = some ob0) (hc : ∀ c e f, ob0 ≠ .cells c e f) (ob : Obj) : Go.Abs.Next w0 F0 μ0 (w.putObj D ob) F μ where
  size := by rw [World.putObj_size]; exact N.size
  os := N.os
  tape := N.tape
  output := N.output
  keep := fun b hb hno => by rw [World.putObj_heap_other (by omega)]; exact N.keep b hb hno
  map := N.map
  new := N.new
  ro := N.ro
  roNew := N.roNew
  rows := fun id b o hi c e f hcell => by
    obtain ⟨c', e', f', q1, q2⟩ := N.rows id b o hi c e f hcell
    exact ⟨c', e', f', by rw [World.putObj_heap_other (fun e1 => by subst e1; rw [h0] at q1; cases q1; exact hc _ _ _ rfl)]; exact q1, q2⟩

theorem stp_deferValue {P : Program} {fr : Frame} {cs : List Frame} {w w' : World} {f : FuncId} {cap as : Array Value} {ds : List Deferred} {v : Value} (hm : fr.mode ≠ .run) (hd : fr.defers = { target := .fn (.func f) cap, args := as } :: ds) (hr : (callFunc f (as ++ cap)).run P w = .ok (.value v) w') :
    step P (lone fr cs w) = .next (lone { fr with defers := ds } cs w') := by
  refine step_lone_go ?_
  have hi : (invoke (.fn (.func f) cap) as).run P w = .ok (.value v) w' := hr
  cases hmode : fr.mode with
  | run => exact absurd hmode hm
  | returning => simp [stepG, unwind, callDeferred, hmode, hd, hi]
  | panicking chain => simp [stepG, unwind, callDeferred, hmode, hd, hi]

theorem ModeR.mono {w w' : World} {F F' : Nat → Prop} {μ μ' : Map} (K : Keeps w F μ w' F' μ') {m : FrameMode} {p : Option AV} (M : ModeR w F μ m p) : ModeR w' F' μ' m p := by
  cases p with
  | none => exact M
  | some v => obtain ⟨v', q1, q2⟩ := M; exact ⟨v', q1, Rel.mono _ K _ q2⟩

theorem settle_mode {w : World} {F : Nat → Prop} {μ : Map} {m : FrameMode} {p : Option AV} (M : ModeR w F μ m p) : settle m = m := by
  cases p with
  | none => rw [show m = .returning from M]; rfl
  | some v => obtain ⟨v', rfl, _⟩ := M; rfl

theorem pn_caller {w : World} {F : Nat → Prop} {μ : Map} {c : Frame} {cs : List Frame} {p : Option AV} (M : ModeR w F μ c.mode p) : PnR w F μ (kindFrame .deferred) (c :: cs) p := by
  unfold PnR
  split
  · refine ⟨rfl, fun fr hfr => ?_⟩
    rw [tryRecover_deferred hfr]
    have hm : c.mode = .returning := M
    simp [recoverD, hm]
  · trivial
  · obtain ⟨v', q1, q2⟩ := M
    exact ⟨rfl, rfl, v', _, by simp only [recoverD, q1]; rfl, q2⟩

theorem leaveA_nil {fn : Func} {tm : T AV} {pn : Option AV} (h : Heap) (p : Option AV) : leaveA C Fn fn tm pn [] h p = (match p with
      | some v => some (.pan v h pn)
      | none => match resultsA C h tm fn.results.toList with
        | some [v] => some (.val v h pn)
        | some vs => some (.val (.tup vs) h pn)
        | none => none) := rfl
theorem leaveA_cons {fn : Func} {tm : T AV} {pn : Option AV} (d : ADef) (ds : List ADef) (h : Heap) (p : Option AV) : leaveA C Fn fn tm pn (d :: ds) h p = (match (bif C.nodef d.f then none else Fn.call d.f d.args h p) with
      | some (.val _ h p') => leaveA C Fn fn tm pn ds h p'
      | _ => none) := rfl

theorem leave_sound (K : FnsOk C Fn) {fn : Func} {tm : T AV} {pn : Option AV} {n0 : Nat} {w0 : World} {F0 : Nat → Prop} {μ0 : Map} (hn0 : n0 = w0.heap.size) : ∀ (cd : List Deferred) (ds : List ADef) (h : Heap) (p : Option AV) (res : Res), leaveA C Fn fn tm pn ds h p = some res →
    ∀ (w : World) (F : Nat → Prop) (μ : Map) (fr : Frame) (cs : List Frame), Go.Abs.Next w0 F0 μ0 w F μ → GRel C w F → HRel w F μ h → TmR w F μ tm fr.tmps → DefR n0 w F μ ds cd → fr.defers = cd → ModeR w F μ fr.mode p → C.P.funcs[fr.fn]? = some fn →
    ∃ e fr' w' F' μ', Go.Abs.Next w0 F0 μ0 w' F' μ' ∧ HRel w' F' μ' res.h ∧ res.pn = pn ∧ Steps C.P (lone fr cs w) (lone fr' cs w') ∧ fr'.fn = fr.fn ∧ fr'.kind = fr.kind ∧ fr'.going C.P w' e ∧ EndR w' F' μ' res e := by
  intro cd
  induction cd with
  | nil =>
    intro ds h p res e w F μ fr cs N0 G H T D hd M hf
    cases D
    rw [leaveA_nil] at e
    cases p with
    | some v =>
      cases e
      obtain ⟨v', hm, r⟩ := M
      exact ⟨.panicked [{ v := v', recovered := false }], fr, w, F, μ, N0, H, rfl, .refl _ _, rfl, rfl, ⟨hm, hd, fn, hf⟩, v', rfl, r⟩
    | none =>
      have fin : ∀ (as : List AV) (x : AV), resultsA C h tm fn.results.toList = some as → x = oneOrTup as → res = .val x h pn → ∃ e fr' w' F' μ', Go.Abs.Next w0 F0 μ0 w' F' μ' ∧ HRel w' F' μ' res.h ∧ res.pn = pn ∧ Steps C.P (lone fr cs w) (lone fr' cs w') ∧ fr'.fn = fr.fn ∧ fr'.kind = fr.kind ∧ fr'.going C.P w' e ∧ EndR w' F' μ' res e := by
        intro as x h1 h2 h3
        subst h3
        obtain ⟨v, q1, q2⟩ := results_sound H T h1 h2
        exact ⟨.returned v, fr, w, F, μ, N0, H, rfl, .refl _ _, rfl, rfl, ⟨M, hd, fn, hf, q1⟩, v, rfl, q2⟩
      simp only at e
      split at e
      · rename_i v hv; cases e; exact fin _ _ hv rfl rfl
      · rename_i vs hn hv
        cases e
        refine fin _ _ hv ?_ rfl
        unfold oneOrTup
        split
        · rename_i v; exact (hn v rfl).elim
        · rfl
      · cases e
  | cons d cd ih =>
    intro ds h p res e w F μ fr cs N0 G H T D hd M hf
    have hrun : fr.mode ≠ .run := by
      cases p with
      | none => intro hh; rw [show fr.mode = .returning from M] at hh; cases hh
      | some v => obtain ⟨v', hm, _⟩ := M; intro hh; rw [hm] at hh; cases hh
    cases D with
    | mark hD hm hF hn hl hrest =>
      rename_i D
      have hst := stp_mark (P := C.P) (cs := cs) hrun hd hD
      have K1 := Keeps.putOther (w := w) hm hF (.deferred none)
      have N1 := Next.putOther N0 (by omega) hD (fun c e f h => by cases h) (.deferred none)
      have M1 : ModeR (w.putObj D (.deferred none)) F μ fr.mode p := by
        cases p with
        | none => exact M
        | some v => obtain ⟨v', q1, q2⟩ := M; exact ⟨v', q1, Rel.mono _ K1 _ q2⟩
      obtain ⟨en, fr', w', F', μ', r1, r2, r3, r4, r5, r6, r7, r8⟩ := ih ds h p res e (w.putObj D (.deferred none)) F μ { fr with defers := cd } cs N1 (G.mono K1 K1.toNone) (H.putOther hm hF _) (T.mono K1) (hrest.putOther hm hF _ hl) rfl M1 hf
      exact ⟨en, fr', w', F', μ', r1, r2, r3, .head hst r4, r5, r6, r7, r8⟩
    | call hargs hrest =>
      rename_i f args ds cap as
      rw [leaveA_cons] at e
      split at e
      · rename_i x h2 p' hcall
        have hnd : C.nodef f = false := by
          cases hb : C.nodef f with
          | false => rfl
          | true => rw [show (bif C.nodef ({ f, args := _ } : ADef).f then none else Fn.call f _ h p) = (bif C.nodef f then none else Fn.call f _ h p) from rfl, hb] at hcall; cases hcall
        rw [show (bif C.nodef ({ f, args := _ } : ADef).f then none else Fn.call f _ h p) = (bif C.nodef f then none else Fn.call f _ h p) from rfl, hnd] at hcall
        simp only [cond_false] at hcall
        rcases K.call f args h p _ hcall w F μ (as ++ cap) G H hargs with ⟨v, w1, F1, μ1, a1, h1, hc, hres, N, H1, _⟩ | ⟨hc, hgo⟩
        · cases hres
          have Kp := N.keeps H
          obtain ⟨en, fr', w', F', μ', r1, r2, r3, r4, r5, r6, r7, r8⟩ := ih ds _ _ res e w1 F1 μ1 { fr with defers := cd } cs (N0.trans N) (G.next H N) H1 (T.mono Kp) (hrest.mono H N) rfl (M.mono Kp) hf
          exact ⟨en, fr', w', F', μ', r1, r2, r3, .head (stp_deferValue hrun hd hc) r4, r5, r6, r7, r8⟩
        · obtain ⟨en, frX, cs', w1, F1, μ1, N, H1, R, _, st, _, hkX, hgoing, hend⟩ := hgo .deferred ({ fr with defers := cd } :: cs) (.inr ⟨rfl, hnd⟩) (pn_caller (c := { fr with defers := cd }) M)
          have Kp := N.keeps H
          obtain ⟨v, rfl, _⟩ := hend
          have hst := step_defer (P := C.P) (cs := cs) hrun hd rfl (show (invoke (.fn (.func f) cap) as).run C.P w = .ok (.enter f (as ++ cap)) w from hc)
          -- the caller behind the call, and its mode
          obtain ⟨c', hcs, hsame, M1⟩ : ∃ c' : Frame, cs' = c' :: cs ∧ { c' with mode := settle c'.mode } = { fr with defers := cd, mode := settle c'.mode } ∧ ModeR w1 F1 μ1 (settle c'.mode) p' := by
            rcases R with ⟨rfl, hp⟩ | ⟨hsome, hp, v', hrec⟩
            · have hp : p' = p := hp
              subst hp
              exact ⟨_, rfl, rfl, by rw [show ({ fr with defers := cd } : Frame).mode = fr.mode from rfl, settle_mode M]; exact M.mono Kp⟩
            · have hp : p' = none := hp
              subst hp
              cases p with
              | none => cases hsome
              | some pv =>
                obtain ⟨v'', q1, q2⟩ := M
                unfold recoverD at hrec
                simp only [q1] at hrec
                cases hrec
                exact ⟨_, rfl, rfl, rfl⟩
          subst hcs
          have hst2 := step_going_returned (P := C.P) (c := c') (cs := cs) hkX hgoing
          rw [hsame] at hst2
          obtain ⟨en, fr', w', F', μ', r1, r2, r3, r4, r5, r6, r7, r8⟩ := ih ds _ _ res e w1 F1 μ1 { fr with defers := cd, mode := settle c'.mode } cs (N0.trans N) (G.next H N) H1 (T.mono Kp) (hrest.mono H N) rfl M1 hf
          exact ⟨en, fr', w', F', μ', r1, r2, r3, .head hst (st.trans (.head hst2 r4)), r5, r6, r7, r8⟩
      · cases e
end
end
end Go.Abs
namespace Go.Abs
noncomputable section
open Go
section
variable {C : Cfg} {Fn : Fns}
theorem stp_end {P : Program} {b : Frame} {a : Act} {cs : List Frame} {w : World} (h : b.roundOf = none) : step P (lone (atR b a []) cs w) = .next (lone { atR b a [] with mode := .returning } cs w) :=
  step_lone_go (by simp [stepG, stepG.exec, atR, h])
theorem stp_ret {P : Program} {b : Frame} {a : Act} {k : List Item} {cs : List Frame} {w : World} (h : b.roundOf = none) : step P (lone (atR b a (.code .ret :: k)) cs w) = .next (lone { atR b a (.code .ret :: k) with mode := .returning } cs w) :=
  step_lone_go (by simp [stepG, stepG.exec, atR, h])

theorem tmOf_get : ∀ (args : List AV) (i : Nat) (t : T AV) (j : Nat), (tmOf i args t).get j = if i ≤ j ∧ j < i + args.length then args[j - i]? else t.get j
  | [], i, t, j => by
    rw [if_neg (by simp)]; rfl
  | x :: args, i, t, j => by
    show (tmOf (Nat.succ i) args (t.put i x)).get j = _
    rw [tmOf_get args (Nat.succ i) _ j]
    by_cases h1 : Nat.succ i ≤ j ∧ j < Nat.succ i + args.length
    · rw [if_pos h1, if_pos (by simp; omega)]
      obtain ⟨m, hm⟩ : ∃ m, j - i = m + 1 := ⟨j - i - 1, by omega⟩
      rw [hm, List.getElem?_cons_succ]
      congr 1; omega
    · rw [if_neg h1, T.get_put]
      by_cases h2 : j = i
      · subst h2; rw [if_pos rfl, if_pos (by simp)]; simp
      · rw [if_neg h2, if_neg (by simp; omega)]

theorem get_leaf (j : Nat) : (T.leaf : T AV).get j = none := rfl
theorem get_fullT : ∀ (f n j : Nat), (fullT f n).get j = none := by
  intro f
  induction f with
  | zero => intro n j; rfl
  | succ f ih =>
    intro n j
    have : fullT (f + 1) n = bif Nat.beq n 0 then .leaf else .node (fullT f (Nat.div n 2)) none (fullT f (Nat.div (Nat.sub n 1) 2)) := rfl
    rw [this]
    cases Nat.beq n 0 with
    | true => rfl
    | false =>
      show (bif Nat.beq j 0 then none else bif Nat.beq (Nat.mod j 2) 1 then (fullT f (Nat.div n 2)).get (Nat.div j 2) else (fullT f (Nat.div (Nat.sub n 1) 2)).get (Nat.sub (Nat.div j 2) 1)) = none
      rw [ih, ih]
      cases Nat.beq j 0 <;> cases Nat.beq (Nat.mod j 2) 1 <;> rfl

theorem tmR_args {w : World} {F : Nat → Prop} {μ : Map} {args : List AV} {vs us : Array Value} {n : Nat} (r : RelL w F args μ vs.toList) : TmR w F μ (tmOf 0 args (fullT 12 n)) (vs ++ us) := by
  intro i x hi
  rw [tmOf_get] at hi
  split at hi
  · rw [Nat.sub_zero] at hi
    obtain ⟨v, q1, q2⟩ := relL_get r hi
    refine ⟨v, ?_, q2⟩
    have hlt := (List.getElem?_eq_some_iff.1 q1).1
    rw [Array.getElem?_append_left (by simpa using hlt)]
    simpa using q1
  · rw [get_fullT] at hi; cases hi

/-- the frame that stands for a function's own -/
def ownFrame (f : FuncId) (kind : CallKind) (n : Nat) : Frame := { (default : Frame) with fn := f, kind, roundOf := none, tmps := Array.replicate n undef }

theorem enter_eq {P : Program} {f : FuncId} {fn : Func} {c : Code} (hf : P.funcs[f]? = some fn) (hb : fn.body = some c) (vs : Array Value) (kind : CallKind) (n : Nat) :
    Frame.enter P f vs kind = atR (ownFrame f kind n) { tmps := vs ++ Array.replicate (fn.ntmps - vs.size) undef, defers := [] } [.code c] := by
  simp [Frame.enter, atR, ownFrame, hf, hb]

theorem callFunc_body {P : Program} {f : FuncId} {fn : Func} {c : Code} {w : World} (hf : P.funcs[f]? = some fn) (hb : fn.body = some c) (hn : fn.name ≠ "runtime.NumGoroutine") (vs : Array Value) : (callFunc f vs).run P w = .ok (.enter f vs) w := by
  simp [callFunc, hf, hb, hn]

theorem pnR_kind {w : World} {F : Nat → Prop} {μ : Map} {b b' : Frame} {cs : List Frame} {pn : Option AV} (h1 : b.kind = b'.kind) (h2 : b.roundOf = b'.roundOf) (p : PnR w F μ b cs pn) : PnR w F μ b' cs pn := by
  unfold PnR at *
  rw [h1, h2] at p
  exact p

/-- a function with a body -/
theorem body_sound (K : FnsOk C Fn) (hex : ∀ c, Sound C c (execA C Fn c)) {f : FuncId} {fn : Func} {c : Code} {args : List AV} {h : Heap} {pn : Option AV} {res : Res} (hf : C.P.funcs[f]? = some fn) (hb : fn.body = some c) (hn : fn.name ≠ "runtime.NumGoroutine")
    (hle : args.length ≤ fn.ntmps) (e : leaveO C Fn fn (execA C Fn c { n := fn.ntmps, tm := tmOf 0 args (fullT 12 fn.ntmps), h, ds := [], pn }) = some res) : CallOk C f args h pn res := by
  intro w F μ vs G H r
  refine .inr ⟨callFunc_body hf hb hn vs, fun kind cs _ hp => ?_⟩
  have hlen := (RelL.get r).1
  simp only [Array.length_toList] at hlen
  have S : StR (ownFrame f kind w.heap.size) cs w F μ { n := fn.ntmps, tm := tmOf 0 args (fullT 12 fn.ntmps), h, ds := [], pn } { tmps := vs ++ Array.replicate (fn.ntmps - vs.size) undef, defers := [] } :=
    ⟨by simp; omega, tmR_args r, H, .nil, pnR_kind rfl rfl hp, by simp [ownFrame]⟩
  rw [enter_eq hf hb vs kind w.heap.size]
  cases hout : execA C Fn c { n := fn.ntmps, tm := tmOf 0 args (fullT 12 fn.ntmps), h, ds := [], pn } with
  | none => rw [hout] at e; cases e
  | some out =>
    rw [hout] at e
    obtain ⟨a', cs', w1, F1, μ1, N, S1, R, c1⟩ := hex c _ out hout (ownFrame f kind w.heap.size) [] cs w F μ _ G S
    have fin : ∀ (p : Option AV) (todo : List Item) (m : FrameMode), leaveA C Fn fn out.st.tm out.st.pn out.st.ds out.st.h p = some res → ModeR w1 F1 μ1 m p →
        Steps C.P (lone (atR (ownFrame f kind w.heap.size) { tmps := vs ++ Array.replicate (fn.ntmps - vs.size) undef, defers := [] } [.code c]) cs w) (lone { atR (ownFrame f kind w.heap.size) a' todo with mode := m } cs' w1) →
        ∃ e fr cs' w' F' μ', Go.Abs.Next w F μ w' F' μ' ∧ HRel w' F' μ' res.h ∧ CsR cs pn cs' res.pn ∧ PnR w' F' μ' (kindFrame kind) cs' res.pn ∧
        Steps C.P (lone (atR (ownFrame f kind w.heap.size) { tmps := vs ++ Array.replicate (fn.ntmps - vs.size) undef, defers := [] } [.code c]) cs w) (lone fr cs' w') ∧ fr.fn = f ∧ fr.kind = kind ∧ fr.going C.P w' e ∧ EndR w' F' μ' res e := by
      intro p todo m el M st
      obtain ⟨en, fr', w', F', μ', r1, r2, r3, r4, r5, r6, r7, r8⟩ := leave_sound (C := C) K (n0 := w.heap.size) rfl a'.defers out.st.ds out.st.h p res el w1 F1 μ1 { atR (ownFrame f kind w.heap.size) a' todo with mode := m } cs' N (G.next H N) S1.heap S1.tm (by have := S1.ds; simpa [ownFrame] using this) rfl M hf
      refine ⟨en, fr', cs', w', F', μ', r1, r2, by rw [r3]; exact R, ?_, st.trans r4, r5, r6, r7, r8⟩
      rw [r3]
      rcases R with ⟨rfl, hpn⟩ | ⟨_, hpn, _⟩
      · rw [show out.st.pn = pn from hpn]; exact hp.mono (r1.keeps H)
      · have := S1.pn
        rw [hpn] at this ⊢
        exact this
    cases out with
    | nrm s => exact fin none [] .returning e rfl (Steps.trans c1 (.one (stp_end rfl)))
    | ret s =>
      obtain ⟨k', c1⟩ := c1
      exact fin none _ .returning e rfl (Steps.trans c1 (.one (stp_ret rfl)))
    | pan v s =>
      obtain ⟨v', todo, q1, c1⟩ := c1
      exact fin (some v) todo _ e ⟨v', rfl, q1⟩ c1
    | ext id s => cases e
    | gto l s => cases e
end
end
end Go.Abs
namespace Go.Abs
noncomputable section
open Go
section
variable {C : Cfg} {Fn : Fns} {w : World} {F : Nat → Prop} {μ : Map} {h : Heap}
/-! ## Calls over a heap of their own -/
theorem noOwnL_cons (f : AV → Bool) (c : AV) (l : List AV) : noOwnL f (c :: l) = (f c && noOwnL f l) := rfl
theorem noOwn_succ (n : Nat) (v : AV) : noOwn (n + 1) v = (match v with
    | .ptrO _ _ => false
    | .slO _ _ _ _ _ _ => false
    | .agg cs => noOwnL (noOwn n) cs
    | .tup cs => noOwnL (noOwn n) cs
    | .fn f a b => (match f with | .yield _ => false | _ => true) && (noOwnL (noOwn n) a && noOwnL (noOwn n) b)
    | .ifc _ v => noOwn n v
    | _ => true) := rfl

theorem noOwn_sound : ∀ (n : Nat) (x : AV) (v : Value), noOwn n x = true → Rel w F x μ v → Rel w F x Map.none v := by
  intro n
  induction n with
  | zero => intro x v e; cases e
  | succ n ih =>
    have hl : ∀ (l : List AV) (vs : List Value), noOwnL (noOwn n) l = true → RelL w F l μ vs → RelL w F l Map.none vs := by
      intro l
      induction l with
      | nil => intro vs _ r; unfold RelL at r ⊢; exact r
      | cons c l ihl =>
        intro vs e r
        rw [noOwnL_cons, Bool.and_eq_true] at e
        unfold RelL at r ⊢
        obtain ⟨v, us, rfl, r1, r2⟩ := r
        exact ⟨v, us, rfl, ih c v e.1 r1, ihl us e.2 r2⟩
    intro x v e r
    rw [noOwn_succ] at e
    cases x with
    | ptrO _ _ => cases e
    | slO _ _ _ _ _ _ => cases e
    | agg cs => unfold Rel at r ⊢; obtain ⟨vs, h1, h2, h3⟩ := r; exact ⟨vs, h1, hl _ _ e h2, h3⟩
    | tup cs => unfold Rel at r ⊢; obtain ⟨vs, h1, h2⟩ := r; exact ⟨vs, h1, hl _ _ e h2⟩
    | fn f a b =>
      simp only [Bool.and_eq_true] at e
      unfold Rel at r ⊢
      obtain ⟨g, a', b', h1, h2, h3, h4⟩ := r
      refine ⟨g, a', b', h1, ?_, hl _ _ e.2.1 h3, hl _ _ e.2.2 h4⟩
      cases f with
      | yield id => exact absurd e.1 (by simp)
      | _ => exact h2
    | ifc t v => unfold Rel at r ⊢; obtain ⟨y, h1, h2⟩ := r; exact ⟨y, h1, ih v y e h2⟩
    | dead => unfold Rel; trivial
    | bool _ => unfold Rel at r ⊢; exact r
    | int _ _ => unfold Rel at r ⊢; exact r
    | str _ => unfold Rel at r ⊢; exact r
    | nilp => unfold Rel at r ⊢; exact r
    | ptrR _ _ => unfold Rel at r ⊢; exact r
    | nils => unfold Rel at r ⊢; exact r
    | slR _ _ _ _ _ => unfold Rel at r ⊢; exact r
    | slT _ _ _ => unfold Rel at r ⊢; exact r
    | nilf => unfold Rel at r ⊢; exact r
    | nili => unfold Rel at r ⊢; exact r

theorem noOwns_sound : ∀ (l : List AV) (vs : List Value), noOwnL (noOwn deep) l = true → RelL w F l μ vs → RelL w F l Map.none vs
  | [], vs, _, r => by unfold RelL at r ⊢; exact r
  | c :: l, vs, e, r => by
    rw [noOwnL_cons, Bool.and_eq_true] at e
    unfold RelL at r ⊢
    obtain ⟨v, us, rfl, r1, r2⟩ := r
    exact ⟨v, us, rfl, noOwn_sound _ c v e.1 r1, noOwns_sound l us e.2 r2⟩

/-- nothing mapped, an empty abstract heap: true of every world -/
theorem HRel.empty (hs : ∀ b, F b → b < w.heap.size) : HRel w F Map.none Heap.empty where
  row := fun id b e => by simp at e
  iter := fun id b s p e => by simp at e
  loop := fun id b n tm ps x y j st e => by simp at e
  grp := fun i j bi bj c oi oj e => by simp at e
  typ := fun id b e => by simp at e
  lt := fun id b e => by simp at e
  fresh := fun id x e => by cases e
  dom := fun id c o e => by cases e
  sep := fun b hb => ⟨hs b hb, fun id o e => by cases e⟩

/-- the mapped blocks are read only from now on -/
def frozenF (F : Nat → Prop) (μ : Map) : Nat → Prop := fun b => F b ∨ ∃ id o, μ id = some (b, o)

theorem freezeL_cons (f : AV → Option AV) (c : AV) (l : List AV) : freezeL f (c :: l) = (match f c, freezeL f l with | some a, some as => some (a :: as) | _, _ => none) := rfl

theorem freezeA_succ (h : Heap) (n : Nat) (v : AV) : freezeA h (n + 1) v = (match v with
    | .ptrO id off => match h.get id with
      | some b => bif b.kind.isRow then (match freezeL (freezeA h n) b.cells with | some cs => some (.ptrR cs off) | none => none) else none
      | none => none
    | .slO id off es len _ _ => match cellsAt h id off (Nat.mul len es) with
      | some cs => match freezeL (freezeA h n) cs with | some cs => some (.slR cs 0 len len false) | none => none
      | none => none
    | .agg cs => match freezeL (freezeA h n) cs with | some cs => some (.agg cs) | none => none
    | .tup cs => match freezeL (freezeA h n) cs with | some cs => some (.tup cs) | none => none
    | .fn f a b => match f with
      | .yield _ => none
      | f => match freezeL (freezeA h n) a, freezeL (freezeA h n) b with | some a, some b => some (.fn f a b) | _, _ => none
    | .ifc t v => match freezeA h n v with | some v => some (.ifc t v) | none => none
    | v => some v) := rfl

theorem freezeL_len {f : AV → Option AV} : ∀ (l l' : List AV), freezeL f l = some l' → l'.length = l.length ∧ ∀ (i : Nat) a', l'[i]? = some a' → ∃ a, l[i]? = some a ∧ f a = some a'
  | [], l', e => by cases e; exact ⟨rfl, fun i a' h => by simp at h⟩
  | c :: l, l', e => by
    rw [freezeL_cons] at e
    split at e
    · rename_i a as h1 h2
      cases e
      obtain ⟨q1, q2⟩ := freezeL_len l as h2
      refine ⟨by simp [q1], fun i a' hi => ?_⟩
      cases i with
      | zero => simp at hi; subst hi; exact ⟨c, rfl, h1⟩
      | succ i => simp at hi; obtain ⟨a0, r1, r2⟩ := q2 i a' hi; exact ⟨a0, by simpa using r1, r2⟩
    · cases e

/-- cells one by one -/
theorem relC_of : ∀ (l : List AV) (b o : Nat), (∀ (i : Nat) a, l[i]? = some a → ∃ v, w.cell? ⟨b, o + i, none⟩ = some v ∧ one v = true ∧ Rel w F a Map.none v) → RelC w F l b o
  | [], b, o, _ => by unfold RelC; trivial
  | a :: l, b, o, hc => by
    unfold RelC
    refine ⟨by simpa using hc 0 a rfl, relC_of l b (o + 1) fun i x hi => ?_⟩
    have := hc (i + 1) x (by simpa using hi)
    rwa [show o + (i + 1) = o + 1 + i by omega] at this

/-- a value seen as read only; k: the memory, perhaps without some blocks -/
theorem freezeG_sound (H : HRel w F μ h) {G : Nat → Prop} (hG : ∀ b, F b → G b) {k : Heap} (hkk : ∀ id bl, k.get id = some bl → bl.kind = .row → h.get id = some bl ∧ ∀ b o, μ id = some (b, o) → G b) : ∀ (n : Nat) (x x' : AV) (v : Value), freezeA k n x = some x' → Rel w F x μ v → Rel w G x' Map.none v := by
  have K : Keeps w F Map.none w G Map.none := ⟨fun b hb => ⟨hG b hb, rfl⟩, Map.le_refl _, fun _ _ _ e => by cases e⟩
  intro n
  induction n with
  | zero => intro x x' v e; cases e
  | succ n ih =>
    have hl : ∀ (l l' : List AV) (vs : List Value), freezeL (freezeA k n) l = some l' → RelL w F l μ vs → RelL w G l' Map.none vs := by
      intro l l' vs e r
      obtain ⟨q1, q2⟩ := freezeL_len l l' e
      refine RelL.of (by rw [q1]; exact (RelL.get r).1) fun i a' hi => ?_
      obtain ⟨a, h1, h2⟩ := q2 i a' hi
      obtain ⟨v, h3, h4⟩ := relL_get r h1
      exact ⟨v, h3, ih a a' v h2 h4⟩
    intro x x' v e r
    rw [freezeA_succ] at e
    split at e
    · rename_i id off
      obtain ⟨b, o, hm, rfl⟩ : ∃ b o, μ id = some (b, o) ∧ v = .pointer (some ⟨b, o + off, none⟩) := by unfold Rel at r; exact r
      split at e
      · rename_i bl hb
        cases hk : bl.kind.isRow with
        | false => rw [hk] at e; cases e
        | true =>
          rw [hk] at e
          simp only [cond_true] at e
          split at e
          · rename_i cs hcs
            cases e
            obtain ⟨c, o', hm', cells, el, fr, hw, hsz, hcell, hone, _⟩ := H.row id bl (hkk id bl hb (Kind.isRow_iff.1 hk)).1 (Kind.isRow_iff.1 hk)
            rw [hm] at hm'; cases hm'
            obtain ⟨q1, q2⟩ := freezeL_len _ _ hcs
            unfold Rel
            refine ⟨b, o, (hkk id bl hb (Kind.isRow_iff.1 hk)).2 b o hm, rfl, relC_of _ _ _ fun i a hi => ?_⟩
            obtain ⟨a0, h1, h2⟩ := q2 i a hi
            obtain ⟨u, h3, h4⟩ := hcell i a0 h1
            exact ⟨u, by simp [World.cell?, hw, h3], hone _ _ h3, ih a0 a u h2 h4⟩
          · cases e
      · cases e
    · rename_i id off es len cap ex
      obtain ⟨b, o, a, c, hm, rfl, h3, h4, h5, h6⟩ := rel_slO r
      split at e
      · rename_i cs0 hcs0
        split at e
        · rename_i cs hcs
          cases e
          obtain ⟨q1, q2⟩ := freezeL_len _ _ hcs
          unfold cellsAt at hcs0
          split at hcs0
          · cases hcs0
          · rename_i bl hb
            cases hk : bl.kind.isRow with
            | false => rw [hk] at hcs0; cases hcs0
            | true =>
              rw [hk] at hcs0
              simp only [cond_true] at hcs0
              obtain ⟨p1, p2, p3⟩ := partN_some hcs0
              obtain ⟨c2, o', hm', cells, el, fr, hw, hsz, hcell, hone, _⟩ := H.row id bl (hkk id bl hb (Kind.isRow_iff.1 hk)).1 (Kind.isRow_iff.1 hk)
              rw [hm] at hm'; cases hm'
              unfold Rel
              refine ⟨b, o + off, a, c, (hkk id bl hb (Kind.isRow_iff.1 hk)).2 b o hm, rfl, Nat.le_refl _, by omega, (fun e => by cases e), fun hc => by rw [(h6 hc).1]; rfl, relC_of _ _ _ fun i x hi => ?_⟩
              obtain ⟨a0, r1, r2⟩ := q2 i x hi
              rw [p2, List.getElem?_take] at r1
              split at r1
              · rw [List.getElem?_drop] at r1
                obtain ⟨u, s1, s2⟩ := hcell _ _ r1
                rw [← Nat.add_assoc] at s1
                exact ⟨u, by simp [World.cell?, hw, s1], hone _ _ s1, ih a0 x u r2 s2⟩
              · cases r1
        · cases e
      · cases e
    · split at e
      · rename_i cs hcs
        cases e
        unfold Rel at r ⊢
        obtain ⟨vs, h1, h2, h3⟩ := r
        exact ⟨vs, h1, hl _ _ _ hcs h2, h3⟩
      · cases e
    · split at e
      · rename_i cs hcs
        cases e
        unfold Rel at r ⊢
        obtain ⟨vs, h1, h2⟩ := r
        exact ⟨vs, h1, hl _ _ _ hcs h2⟩
      · cases e
    · rename_i f a b
      split at e
      · cases e
      · rename_i hny
        split at e
        · rename_i a1 b1 ha hb
          cases e
          unfold Rel at r ⊢
          obtain ⟨g, a', b', h1, h2, h3, h4⟩ := r
          refine ⟨g, a', b', h1, ?_, hl _ _ _ ha h3, hl _ _ _ hb h4⟩
          cases f with
          | yield id => exact absurd rfl (hny id)
          | _ => exact h2
        · cases e
    · split at e
      · rename_i t y x1 hx
        cases e
        unfold Rel at r ⊢
        obtain ⟨z, h1, h2⟩ := r
        exact ⟨z, h1, ih _ _ z hx h2⟩
      · cases e
    · rename_i h1 h2 h3 h4 h5 h6
      cases e
      refine Rel.mono _ K _ ?_
      cases x with
      | ptrO id off => exact absurd rfl (h1 id off)
      | slO a b c d e f => exact absurd rfl (h2 a b c d e f)
      | agg cs => exact absurd rfl (h3 cs)
      | tup cs => exact absurd rfl (h4 cs)
      | fn f a b => exact absurd rfl (h5 f a b)
      | ifc t v => exact absurd rfl (h6 t v)
      | dead => unfold Rel; trivial
      | bool _ => unfold Rel at r ⊢; exact r
      | int _ _ => unfold Rel at r ⊢; exact r
      | str _ => unfold Rel at r ⊢; exact r
      | nilp => unfold Rel at r ⊢; exact r
      | ptrR _ _ => unfold Rel at r ⊢; exact r
      | nils => unfold Rel at r ⊢; exact r
      | slR _ _ _ _ _ => unfold Rel at r ⊢; exact r
      | slT _ _ _ => unfold Rel at r ⊢; exact r
      | nilf => unfold Rel at r ⊢; exact r
      | nili => unfold Rel at r ⊢; exact r
/-- a value seen as read only -/
theorem freezeA_sound (H : HRel w F μ h) (n : Nat) (x x' : AV) (v : Value) (e : freezeA h n x = some x') (r : Rel w F x μ v) : Rel w (frozenF F μ) x' Map.none v :=
  freezeG_sound H (fun _ hb => .inl hb) (fun id _ hb _ => ⟨hb, fun _ o hm => .inr ⟨id, o, hm⟩⟩) n x x' v e r

end
end
end Go.Abs
namespace Go.Abs
noncomputable section
open Go
/-! ## Calls -/
/-- what the interpreter takes from elsewhere: functions without a body, known answers, no function of a name that the machine answers by itself -/
structure Given (C : Cfg) : Prop where
  ext : ∀ f e, C.ext f = some e → ∀ args h v h' pn, externA h e args = some (v, h') → CallOk C f args h pn (.val v h' pn)
  spec : ∀ f args v, C.spec f args = some v → ∀ h, CallOk C f args h none (.val v h none)
  name : ∀ (f : Nat) fn, C.P.funcs[f]? = some fn → fn.name ≠ "runtime.NumGoroutine"

theorem get_set1 (h : Heap) (id : Nat) (b : Blk) (j : Nat) : (h.set id b).get j = if j = id then some b else h.get j := by
  unfold Heap.set Heap.get
  exact T.get_put ..

section
variable {C : Cfg} {Fn : Fns} {w w' : World} {F F' : Nat → Prop} {μ μ' : Map} {h h' : Heap}
theorem Next.frozen (N : Go.Abs.Next w F Map.none w' F' μ') (hd : ∀ id c o, μ id = some (c, o) → c < w.heap.size) : Go.Abs.Next w F μ w' (frozenF F' μ') μ where
  size := N.size
  os := N.os
  tape := N.tape
  output := N.output
  keep := fun b hb _ => N.keep b hb (fun _ _ e => by cases e)
  map := Map.le_refl _
  new := fun id c o e => .inl ⟨id, o, e⟩
  ro := fun b hb => .inl (N.ro b hb)
  roNew := fun b hb => by
    rcases hb with hb | ⟨id, o, hb⟩
    · exact N.roNew b hb
    · rcases N.new id b o hb with ⟨_, _, e⟩ | e
      · cases e
      · exact .inr e
  rows := fun id b o hm c e f hc => ⟨c, e, f, by rw [N.keep b (hd id b o hm) (fun _ _ e => by cases e)]; exact hc, rfl⟩

theorem HRel.frozen (H : HRel w F μ h) (N : Go.Abs.Next w F Map.none w' F' μ') (H' : HRel w' F' μ' h') : HRel w' (frozenF F' μ') μ h := by
  have N' := N.frozen (μ := μ) H.dom
  refine H.later N' (fun id c o hm => N.keep c (H.dom id c o hm) (fun _ _ e => by cases e)) (fun _ => rfl) (Nat.le_refl _) rfl fun b hb => ?_
  refine ⟨?_, fun id o hm => ?_⟩
  · rcases hb with hb | ⟨id, o, hb⟩
    · exact (H'.sep b hb).1
    · exact H'.dom id b o hb
  · rcases N'.roNew b hb with e | e
    · exact (H.sep b e).2 id o hm
    · have := H.dom id b o hm; omega

theorem pure_sound {f : FuncId} {args : List AV} {res res' : Res} (K : CallOk C f args Heap.empty none res) (hn : noOwnL (noOwn deep) args = true) (e : pureRes h (some res) = some res') : CallOk C f args h none res' := by
  intro w F μ vs G H r
  have H0 : HRel w F Map.none Heap.empty := HRel.empty fun b hb => (H.sep b hb).1
  have r0 := noOwns_sound args vs.toList hn r
  rcases K w F Map.none vs G H0 r0 with ⟨v, w', F', μ', a, h', hc, rfl, N, H', ra⟩ | ⟨hc, hgo⟩
  · unfold pureRes at e
    simp only at e
    split at e
    · rename_i x hx
      cases e
      exact .inl ⟨v, w', frozenF F' μ', μ, x, h, hc, rfl, N.frozen H.dom, H.frozen N H', Rel.mono _ (Keeps.none_le _ _ _) _ (freezeA_sound H' _ _ _ _ hx ra)⟩
    · cases e
  · refine .inr ⟨hc, fun kind cs hk hp => ?_⟩
    have hp0 : PnR w F Map.none (kindFrame kind) cs none := hp
    obtain ⟨en, fr, cs', w', F', μ', N, H', R, P', st, h1, h2, h3, hend⟩ := hgo kind cs hk hp0
    have hcs : cs' = cs := by
      rcases R with ⟨e, _⟩ | ⟨e, _⟩
      · exact e
      · cases e
    subst hcs
    unfold pureRes at e
    cases res with
    | val a h' p =>
      simp only at e
      split at e
      · rename_i x hx
        cases e
        obtain ⟨v, rfl, ra⟩ := hend
        exact ⟨.returned v, fr, cs', w', frozenF F' μ', μ, N.frozen H.dom, H.frozen N H', .inl ⟨rfl, rfl⟩, hp0, st, h1, h2, h3, v, rfl, Rel.mono _ (Keeps.none_le _ _ _) _ (freezeA_sound H' _ _ _ _ hx ra)⟩
      · cases e
    | pan a h' p =>
      simp only at e
      split at e
      · rename_i x hx
        cases e
        obtain ⟨v, rfl, ra⟩ := hend
        exact ⟨_, fr, cs', w', frozenF F' μ', μ, N.frozen H.dom, H.frozen N H', .inl ⟨rfl, rfl⟩, hp0, st, h1, h2, h3, v, rfl, Rel.mono _ (Keeps.none_le _ _ _) _ (freezeA_sound H' _ _ _ _ hx ra)⟩
      · cases e

theorem freezeL_sound (H : HRel w F μ h) (n : Nat) : ∀ (l l' : List AV) (vs : List Value), freezeL (freezeA h n) l = some l' → RelL w F l μ vs → RelL w (frozenF F μ) l' Map.none vs
  | [], l', vs, e, r => by cases e; unfold RelL at r ⊢; exact r
  | c :: l, l', vs, e, r => by
    rw [freezeL_cons] at e
    split at e
    · rename_i a as h1 h2
      cases e
      unfold RelL at r ⊢
      obtain ⟨v, us, rfl, r1, r2⟩ := r
      exact ⟨v, us, rfl, freezeA_sound H n _ _ _ h1 r1, freezeL_sound H n l as us h2 r2⟩
    · cases e
theorem scal0_rel {v : AV} {u : Value} (hs : scal0 v = true) (r : Rel w' F' v μ' u) : Rel w F v μ u := by
  cases v with
  | bool _ => unfold Rel at r ⊢; exact r
  | int _ _ => unfold Rel at r ⊢; exact r
  | str _ => unfold Rel at r ⊢; exact r
  | nilp => unfold Rel at r ⊢; exact r
  | nils => unfold Rel at r ⊢; exact r
  | _ => cases hs
theorem scalL_rel {f : AV → Bool} (hf : ∀ v u, f v = true → Rel w' F' v μ' u → Rel w F v μ u) : ∀ (l : List AV) (us : List Value), scalL f l = true → RelL w' F' l μ' us → RelL w F l μ us
  | [], us, _, r => by unfold RelL at r ⊢; exact r
  | a :: l, us, h, r => by
    have h : (f a && scalL f l) = true := h
    rw [Bool.and_eq_true] at h
    unfold RelL at r ⊢
    obtain ⟨v, us, rfl, r1, r2⟩ := r
    exact ⟨v, us, rfl, hf _ _ h.1 r1, scalL_rel hf l us h.2 r2⟩
theorem scal1_rel {v : AV} {u : Value} (hs : scal1 v = true) (r : Rel w' F' v μ' u) : Rel w F v μ u := by
  cases v with
  | agg cs =>
    unfold Rel at r ⊢
    obtain ⟨vs, rfl, r1, r2⟩ := r
    exact ⟨vs, rfl, scalL_rel (fun _ _ h r => scal0_rel h r) cs _ hs r1, r2⟩
  | _ => exact scal0_rel hs r
theorem scal_rel {v : AV} {u : Value} (hs : scalA v = true) (r : Rel w' F' v μ' u) : Rel w F v μ u := by
  cases v with
  | tup cs =>
    unfold Rel at r ⊢
    obtain ⟨vs, rfl, r1⟩ := r
    exact ⟨vs, rfl, scalL_rel (fun _ _ h r => scal1_rel h r) cs _ hs r1⟩
  | _ => exact scal1_rel hs r
/-- a call that only reads what is the caller's -/
theorem frz_sound {f : FuncId} {args args' : List AV} {v : AV} {h1 : Heap} {p : Option AV} (K : CallOk C f args' Heap.empty none (.val v h1 p)) (hz : freezeL (freezeA h deep) args = some args') (hs : scalA v = true) : CallOk C f args h none (.val v h none) := by
  intro w F μ vs G H r
  have s2 : ∀ b, frozenF F μ b → b < w.heap.size := by
    rintro b (hb | ⟨id, o, hb⟩)
    · exact (H.sep b hb).1
    · exact H.dom id b o hb
  have H0 : HRel w (frozenF F μ) Map.none Heap.empty := HRel.empty s2
  have k0 : Keeps w F Map.none w (frozenF F μ) Map.none := ⟨fun b hb => ⟨.inl hb, rfl⟩, Map.le_refl _, fun _ _ _ hm => by cases hm⟩
  have G2 : GRel C w (frozenF F μ) := GRel.mono G k0 k0
  have r0 := freezeL_sound H deep args args' vs.toList hz r
  have nx : ∀ {w' : World} {F' : Nat → Prop} {μ' : Map}, Go.Abs.Next w (frozenF F μ) Map.none w' F' μ' → Go.Abs.Next w F μ w' F μ := fun N =>
    { size := N.size, os := N.os, tape := N.tape, output := N.output, keep := fun b hb _ => N.keep b hb (fun _ _ e => by cases e), map := Map.le_refl _, new := fun id c o e => .inl ⟨id, o, e⟩, ro := fun b hb => hb, roNew := fun b hb => .inl hb,
      rows := fun id b o hm c e f hc => ⟨c, e, f, by rw [N.keep b (H.dom id b o hm) (fun _ _ e => by cases e)]; exact hc, rfl⟩ }
  have hr : ∀ {w' : World} {F' : Nat → Prop} {μ' : Map}, Go.Abs.Next w (frozenF F μ) Map.none w' F' μ' → HRel w' F μ h := fun N =>
    H.later (nx N) (fun id c o hm => N.keep c (H.dom id c o hm) (fun _ _ e => by cases e)) (fun _ => rfl) (Nat.le_refl _) rfl fun b hb => ⟨Nat.lt_of_lt_of_le (H.sep b hb).1 N.size, (H.sep b hb).2⟩
  rcases K w (frozenF F μ) Map.none vs G2 H0 r0 with ⟨u, w', F', μ', a, h', hc, e, N, H', ra⟩ | ⟨hc, hgo⟩
  · cases e
    exact .inl ⟨u, w', F, μ, v, h, hc, rfl, nx N, hr N, scal_rel hs ra⟩
  · refine .inr ⟨hc, fun kind cs hk hp => ?_⟩
    have hp0 : PnR w (frozenF F μ) Map.none (kindFrame kind) cs none := hp
    obtain ⟨en, fr, cs', w', F', μ', N, H', R, P', st, h1, h2, h3, hend⟩ := hgo kind cs hk hp0
    have hcs : cs' = cs := by
      rcases R with ⟨e, _⟩ | ⟨e, _⟩
      · exact e
      · cases e
    subst hcs
    obtain ⟨u, rfl, ra⟩ := hend
    exact ⟨.returned u, fr, cs', w', F, μ, nx N, hr N, .inl ⟨rfl, rfl⟩, hp, st, h1, h2, h3, u, rfl, scal_rel hs ra⟩
/-- a call over a heap of one block -/
theorem own1_sound {f : FuncId} {i : Nat} {x y : AV} {rest : List AV} {b : Blk} {res res' : Res} (hxy : lead1 x = some (i, y)) (hb : h.get i = some b) (hl : loneBlk b = true) (K : CallOk C f (y :: rest) (heap1 b) none res) (hn : noOwnL (noOwn deep) rest = true) (e : own1Res h i b (some res) = some res') : CallOk C f (x :: rest) h none res' := by
  unfold loneBlk at hl
  simp only [Bool.and_eq_true, Bool.not_eq_true'] at hl
  obtain ⟨k1, k2, k3, k4⟩ := hl
  have hrow := Kind.isRow_iff.1 k1
  unfold own1Res at e
  cases res with
  | pan a h' p => cases e
  | val a h1 p =>
    simp only at e
    split at e
    · rename_i c hc
      cases hcl : loneBlk c with
      | false => rw [hcl] at e; cases e
      | true =>
        rw [hcl] at e
        simp only [cond_true] at e
        obtain ⟨a2, hfz, rfl⟩ : ∃ a2, freezeA (h1.set 0 (holeB c)) deep a = some a2 ∧ res' = .val a2 (h.set i { c with grp := b.grp, base := b.base, ver := Nat.succ b.ver }) none := by
          split at e
          · rename_i a2 hz; cases e; exact ⟨a2, hz, rfl⟩
          · cases e
        unfold loneBlk at hcl
        simp only [Bool.and_eq_true, Bool.not_eq_true'] at hcl
        obtain ⟨c1, c2, c3, c4⟩ := hcl
        have hcrow := Kind.isRow_iff.1 c1
        intro w F μ vs G H r
        obtain ⟨cb, o, hm, hrowat⟩ := H.row i b hb hrow
        have hdom := H.dom i cb o hm
        -- no other live block lies there
        have only : ∀ j bj, j ≠ i → h.get j = some bj → live bj → ∀ d o', μ j = some (d, o') → d ≠ cb := by
          intro j bj hne hj hlj d o' hmj e
          subst e
          have := (H.grp i j b bj d o o' hb hj (by unfold live; rw [hrow]; intro e; cases e) hlj hm hmj).2.2 (Ne.symm hne)
          rw [k2] at this; cases this
        have g1 : ∀ j b', (heap1 b).get j = some b' → j = 0 ∧ b' = { b with grp := 0, base := 0, ver := 0 } := by
          intro j b' hj
          unfold heap1 Heap.get at hj
          cases j with
          | zero => cases hj; exact ⟨rfl, rfl⟩
          | succ j =>
            exfalso
            have : ((T.node T.leaf (some { b with grp := 0, base := 0, ver := 0 }) T.leaf : T Blk).get (j + 1)) = none := by
              show (bif Nat.beq (j + 1) 0 then (some { b with grp := 0, base := 0, ver := 0 } : Option Blk) else bif Nat.beq (Nat.mod (j + 1) 2) 1 then (T.leaf : T Blk).get (Nat.div (j + 1) 2) else (T.leaf : T Blk).get (Nat.sub (Nat.div (j + 1) 2) 1)) = none
              rw [show Nat.beq (j + 1) 0 = false from rfl]
              cases Nat.beq (Nat.mod (j + 1) 2) 1 <;> rfl
            rw [this] at hj; cases hj
        let μ1 : Map := fun id => if id = 0 then some (cb, o) else none
        have m1 : ∀ id x, μ1 id = some x → id = 0 ∧ x = (cb, o) := by
          intro id x hx
          by_cases e : id = 0
          · subst e; simp only [μ1, if_true] at hx; cases hx; exact ⟨rfl, rfl⟩
          · simp only [μ1, if_neg e] at hx; cases hx
        have m10 : μ1 0 = some (cb, o) := by simp [μ1]
        have K1 : Keeps w F Map.none w F μ1 := Keeps.none_le _ _ _
        have H1 : HRel w F μ1 (heap1 b) := by
          refine ⟨?_, ?_, ?_, ?_, ?_, ?_, ?_, ?_, ?_⟩
          · intro id b' hi hk
            obtain ⟨rfl, rfl⟩ := g1 id b' hi
            obtain ⟨cells, el, fr, q1, q2, q3, q4, q5⟩ := hrowat
            refine ⟨cb, o, m10, cells, el, fr, q1, q2, fun n x hx => ?_, q4, q5⟩
            obtain ⟨v, s1, s2⟩ := q3 n x hx
            have hno : noOwn deep x = true := by
              have hall : ∀ l : List AV, noOwnL (noOwn deep) l = true → ∀ y ∈ l, noOwn deep y = true := by
                intro l
                induction l with
                | nil => intro _ y hy; cases hy
                | cons z l ih =>
                  intro hz y hy
                  rw [noOwnL_cons, Bool.and_eq_true] at hz
                  rcases List.mem_cons.1 hy with rfl | hy
                  · exact hz.1
                  · exact ih hz.2 y hy
              exact hall b.cells k4 x (List.mem_of_getElem? hx)
            exact ⟨v, s1, Rel.mono _ K1 _ (noOwn_sound _ _ _ hno s2)⟩
          · intro id b' s p hi hk
            obtain ⟨rfl, rfl⟩ := g1 id b' hi
            rw [show ({ b with grp := 0, base := 0, ver := 0 } : Blk).kind = b.kind from rfl, hrow] at hk; cases hk
          · intro id b' n tm ps x y j st hi hk
            obtain ⟨rfl, rfl⟩ := g1 id b' hi
            rw [show ({ b with grp := 0, base := 0, ver := 0 } : Blk).kind = b.kind from rfl, hrow] at hk; cases hk
          · intro a1 a2 b1 b2 c' o1 o2 h1 h2 _ _ q1 q2
            obtain ⟨rfl, rfl⟩ := g1 a1 b1 h1
            obtain ⟨rfl, rfl⟩ := g1 a2 b2 h2
            rw [q1] at q2; cases q2
            exact ⟨rfl, rfl, fun e => absurd rfl e⟩
          · intro id b' hi hk c' o' q
            obtain ⟨rfl, rfl⟩ := g1 id b' hi
            obtain ⟨_, hx⟩ := m1 _ _ q
            cases hx
            exact H.typ i b hb hrow cb o hm
          · intro id b' hi
            obtain ⟨rfl, rfl⟩ := g1 id b' hi
            exact Nat.zero_lt_one
          · intro id x hx
            obtain ⟨rfl, _⟩ := m1 id x hx
            exact Nat.zero_lt_one
          · intro id c' o' hx
            obtain ⟨_, hx⟩ := m1 id _ hx
            cases hx; exact hdom
          · intro d hd
            refine ⟨(H.sep d hd).1, fun id o' hx => ?_⟩
            obtain ⟨_, hx⟩ := m1 id _ hx
            cases hx
            exact (H.sep _ hd).2 i _ hm
        have r1 : RelL w F (y :: rest) μ1 vs.toList := by
          unfold RelL at r ⊢
          obtain ⟨v, us, q1, q2, q3⟩ := r
          refine ⟨v, us, q1, ?_, RelL.mono _ K1 _ (noOwns_sound rest us hn q3)⟩
          unfold lead1 at hxy
          split at hxy
          · cases hxy
            unfold Rel at q2 ⊢
            obtain ⟨bb, oo, s1, s2⟩ := q2
            rw [hm] at s1; cases s1
            exact ⟨cb, o, m10, s2⟩
          · cases hxy
            unfold Rel at q2 ⊢
            obtain ⟨bb, oo, a, cc, s1, s2⟩ := q2
            rw [hm] at s1; cases s1
            exact ⟨cb, o, a, cc, m10, s2⟩
          · cases hxy
        let FF : (Nat → Prop) → Map → Nat → Prop := fun F' μ' d => F' d ∨ ∃ id o, id ≠ 0 ∧ μ' id = some (d, o) ∧ d ≠ cb
        -- what comes back
        have back : ∀ (w' : World) (F' : Nat → Prop) (μ' : Map), Go.Abs.Next w F μ1 w' F' μ' → HRel w' F' μ' h1 → Go.Abs.Next w F μ w' (FF F' μ') μ ∧ HRel w' (FF F' μ') μ (h.set i { c with grp := b.grp, base := b.base, ver := Nat.succ b.ver }) ∧ ∀ v, Rel w' F' a μ' v → Rel w' (FF F' μ') a2 Map.none v := by
          intro w' F' μ' N H'
          have un : ∀ d, d ≠ cb → ∀ id o', μ1 id ≠ some (d, o') := fun d hd id o' hx => by
            obtain ⟨_, hx⟩ := m1 id _ hx
            cases hx; exact hd rfl
          have old : ∀ id d o', μ' id = some (d, o') → d ≠ cb → w.heap.size ≤ d := by
            intro id d o' hx hd
            rcases N.new id d o' hx with ⟨id0, o0, h0⟩ | h0
            · exact absurd h0 (un d hd id0 o0)
            · exact h0
          have N' : Go.Abs.Next w F μ w' (FF F' μ') μ := by
            refine ⟨N.size, N.os, N.tape, N.output, fun d hd hno => N.keep d hd (un d (fun e => hno i o (by rw [e]; exact hm))), Map.le_refl _, fun id d o' e => .inl ⟨id, o', e⟩, fun d hd => .inl (N.ro d hd), fun d hd => ?_, ?_⟩
            · rcases hd with hd | ⟨id, o', _, hx, hne⟩
              · exact N.roNew d hd
              · exact .inr (old id d o' hx hne)
            intro id d o' hid ce el fr hce
            by_cases e : d = cb
            · subst e; exact N.rows 0 d o m10 ce el fr hce
            · exact ⟨ce, el, fr, by rw [N.keep d (H.dom id d o' hid) (un d e)]; exact hce, rfl⟩
          have m0' := N.map _ _ m10
          refine ⟨N', ?_, fun v hv => ?_⟩
          rotate_left
          · refine freezeG_sound H' (G := FF F' μ') (fun d hd => .inl hd) (fun id bl hid hrw => ?_) deep a a2 v hfz hv
            rw [get_set1] at hid
            split at hid
            · cases hid; cases hrw
            · rename_i hne
              refine ⟨hid, fun d o' hx => .inr ⟨id, o', hne, hx, fun e => ?_⟩⟩
              subst e
              have := (H'.grp 0 id c bl d o o' hc hid (by unfold live; rw [hcrow]; intro e; cases e) (by unfold live; rw [hrw]; intro e; cases e) m0' hx).2.2 (Ne.symm hne)
              rw [c2] at this; cases this
          have Kp := N'.keeps H
          have KF : Keeps w' F' Map.none w' (FF F' μ') μ := ⟨fun d hd => ⟨.inl hd, rfl⟩, Map.none_le _, fun _ _ _ e => by cases e⟩
          have hset := get_set1 h i { c with grp := b.grp, base := b.base, ver := Nat.succ b.ver }
          refine ⟨?_, ?_, ?_, ?_, ?_, ?_, H.fresh, ?_, ?_⟩
          · intro id b' hi hk
            rw [hset] at hi
            split at hi
            · rename_i e; subst e; cases hi
              obtain ⟨cc, oo, q0, cells, el, fr, q1, q2, q3, q4, q5⟩ := H'.row 0 c hc hcrow
              rw [m0'] at q0; cases q0
              refine ⟨cb, o, hm, cells, el, fr, q1, q2, fun n x hx => ?_, q4, q5⟩
              obtain ⟨v, s1, s2⟩ := q3 n x hx
              have hno : noOwn deep x = true := by
                have hall : ∀ l : List AV, noOwnL (noOwn deep) l = true → ∀ y ∈ l, noOwn deep y = true := by
                  intro l
                  induction l with
                  | nil => intro _ y hy; cases hy
                  | cons z l ih =>
                    intro hz y hy
                    rw [noOwnL_cons, Bool.and_eq_true] at hz
                    rcases List.mem_cons.1 hy with rfl | hy
                    · exact hz.1
                    · exact ih hz.2 y hy
                exact hall c.cells c4 x (List.mem_of_getElem? hx)
              exact ⟨v, s1, Rel.mono _ KF _ (noOwn_sound _ _ _ hno s2)⟩
            · rename_i e
              obtain ⟨d, o', q0, cells, el, fr, q1, q2, q3, q4, q5⟩ := H.row id b' hi hk
              have hne := only id b' e hi (by unfold live; rw [hk]; intro e; cases e) d o' q0
              exact ⟨d, o', q0, cells, el, fr, by rw [N.keep d (H.dom id d o' q0) (un d hne)]; exact q1, q2, fun n x hx => let ⟨v, s1, s2⟩ := q3 n x hx; ⟨v, s1, Rel.mono _ Kp _ s2⟩, q4, q5⟩
          · intro id b' s p hi hk
            rw [hset] at hi
            split at hi
            · cases hi; rw [show ({ c with grp := b.grp, base := b.base, ver := Nat.succ b.ver } : Blk).kind = c.kind from rfl, hcrow] at hk; cases hk
            · rename_i e
              obtain ⟨d, o', q0, q1⟩ := H.iter id b' s p hi hk
              have hne := only id b' e hi (by unfold live; rw [hk]; intro e; cases e) d o' q0
              exact ⟨d, o', q0, by rw [N.keep d (H.dom id d o' q0) (un d hne)]; exact q1⟩
          · intro id b' n tm ps x y j st hi hk
            rw [hset] at hi
            split at hi
            · cases hi; rw [show ({ c with grp := b.grp, base := b.base, ver := Nat.succ b.ver } : Blk).kind = c.kind from rfl, hcrow] at hk; cases hk
            · rename_i e
              obtain ⟨d, o', q0, f1, tmps, dd, q1, q2, q3⟩ := H.loop id b' n tm ps x y j st hi hk
              have hne := only id b' e hi (by unfold live; rw [hk]; intro e; cases e) d o' q0
              exact ⟨d, o', q0, f1, tmps, dd, by rw [N.keep d (H.dom id d o' q0) (un d hne)]; exact q1, q2, q3.mono Kp⟩
          · intro i1 i2 b1 b2 d o1 o2 h1' h2' l1 l2 q1 q2
            rw [hset] at h1' h2'
            by_cases e1 : i1 = i
            · subst e1
              rw [if_pos rfl] at h1'; cases h1'
              by_cases e2 : i2 = i1
              · subst e2
                rw [if_pos rfl] at h2'; cases h2'
                rw [q1] at q2; cases q2
                exact ⟨rfl, rfl, fun e => absurd rfl e⟩
              · rw [if_neg e2] at h2'
                rw [hm] at q1; cases q1
                exact absurd rfl (only i2 b2 e2 h2' l2 _ _ q2)
            · rw [if_neg e1] at h1'
              by_cases e2 : i2 = i
              · subst e2
                rw [if_pos rfl] at h2'; cases h2'
                rw [hm] at q2; cases q2
                exact absurd rfl (only i1 b1 e1 h1' l1 _ _ q1)
              · rw [if_neg e2] at h2'
                exact H.grp i1 i2 b1 b2 d o1 o2 h1' h2' l1 l2 q1 q2
          · intro id b' hi hk d o' q
            rw [hset] at hi
            split at hi
            · rename_i e; subst e; cases hi
              rw [hm] at q; cases q
              exact H'.typ 0 c hc hcrow cb o m0'
            · rename_i e
              obtain ⟨cells, fr, q1, q2⟩ := H.typ id b' hi hk d o' q
              have hne := only id b' e hi (by unfold live; rw [hk]; intro e; cases e) d o' q
              exact ⟨cells, fr, by rw [N.keep d (H.dom id d o' q) (un d hne)]; exact q1, q2⟩
          · intro id b' hi
            rw [hset] at hi
            split at hi
            · rename_i e; subst e; exact H.lt id b hb
            · exact H.lt id b' hi
          · intro id d o' q; exact Nat.lt_of_lt_of_le (H.dom id d o' q) N.size
          · intro d hd
            rcases hd with hd | ⟨id, o', _, hx, hne⟩
            · rcases N.roNew d hd with h0 | h0
              · exact ⟨Nat.lt_of_lt_of_le (H.sep d h0).1 N.size, (H.sep d h0).2⟩
              · exact ⟨(H'.sep d hd).1, fun id o' q => by have := H.dom id d o' q; omega⟩
            · exact ⟨H'.dom id d o' hx, fun j o2 q => by have := H.dom j d o2 q; have := old id d o' hx hne; omega⟩
        rcases K w F μ1 vs G H1 r1 with ⟨v, w', F', μ', a', h', hc', hres, N, H', ra⟩ | ⟨hc', hgo⟩
        · cases hres
          obtain ⟨N', H'', hfr⟩ := back w' F' μ' N H'
          exact .inl ⟨v, w', FF F' μ', μ, _, _, hc', rfl, N', H'', Rel.mono _ (Keeps.none_le _ _ _) _ (hfr v ra)⟩
        · refine .inr ⟨hc', fun kind cs hk hp => ?_⟩
          have hp0 : PnR w F μ1 (kindFrame kind) cs none := hp
          obtain ⟨en, fr, cs', w', F', μ', N, H', R, P', st, q1, q2, q3, hend⟩ := hgo kind cs hk hp0
          have hcs : cs' = cs := by
            rcases R with ⟨e, _⟩ | ⟨e, _⟩
            · exact e
            · cases e
          subst hcs
          obtain ⟨N', H'', hfr⟩ := back w' F' μ' N H'
          obtain ⟨v, rfl, ra⟩ := hend
          exact ⟨.returned v, fr, cs', w', FF F' μ', μ, N', H'', .inl ⟨rfl, rfl⟩, hp, st, q1, q2, q3, v, rfl, Rel.mono _ (Keeps.none_le _ _ _) _ (hfr v ra)⟩
    · cases e

theorem callBody_sound (V : Given C) (K : FnsOk C Fn) (hex : ∀ c, Sound C c (execA C Fn c)) {f : FuncId} {args : List AV} {pn : Option AV} {res : Res} (e : callBody C Fn f args h pn = some res) : CallOk C f args h pn res := by
  unfold callBody at e
  split at e
  · cases e
  · rename_i fn hf
    split at e
    · split at e
      · cases e
      · rename_i x hx
        split at e
        · rename_i v h' he
          cases e
          exact V.ext f x hx args h v h' pn he
        · cases e
    · rename_i c hb
      cases hle : Nat.ble (lenN args) fn.ntmps with
      | false => rw [hle] at e; cases e
      | true =>
        rw [hle] at e
        have hle := Nat.le_of_ble_eq_true hle
        rw [lenN_eq] at hle
        exact body_sound K hex hf hb (V.name f fn hf) hle e

theorem callA0_sound (V : Given C) (K : FnsOk C Fn) (hex : ∀ c, Sound C c (execA C Fn c)) {f : FuncId} {args : List AV} {pn : Option AV} {res : Res} (e : callA0 C Fn f args h pn = some res) : CallOk C f args h pn res := by
  unfold callA0 at e
  cases ho : (C.own1 f && pn.isNone) with
  | true =>
    rw [ho] at e
    simp only [Bool.and_eq_true, Option.isNone_iff_eq_none] at ho
    obtain ⟨_, rfl⟩ := ho
    simp only [cond_true] at e
    unfold own1A at e
    split at e
    · cases e
    · rename_i x rest
      split at e
      · rename_i i y hxy
        split at e
        · rename_i b hb
          cases hl : (loneBlk b && noOwnL (noOwn deep) rest) with
          | false => rw [hl] at e; cases e
          | true =>
            rw [hl] at e
            rw [Bool.and_eq_true] at hl
            simp only [cond_true] at e
            cases hr : callBody C Fn f (y :: rest) (heap1 b) none with
            | none => rw [hr] at e; cases e
            | some r =>
              rw [hr] at e
              exact own1_sound hxy hb hl.1 (callBody_sound V K hex hr) hl.2 e
        · cases e
      · cases e
  | false =>
  rw [ho] at e
  simp only [cond_false] at e
  cases hfz : (C.frz f && (pn.isNone && !(noOwnL (noOwn deep) args))) with
  | true =>
    rw [hfz] at e
    simp only [cond_true] at e
    simp only [Bool.and_eq_true, Option.isNone_iff_eq_none] at hfz
    obtain ⟨_, rfl, _⟩ := hfz
    unfold frzRes at e
    split at e
    · cases e
    · rename_i args' hz
      split at e
      · rename_i v hv
        cases hs : scalA v with
        | false => rw [hs] at e; cases e
        | true => rw [hs] at e; cases e; exact frz_sound (V.spec f args' v hv Heap.empty) hz hs
      · split at e
        · rename_i v h1 p hr
          cases hs : scalA v with
          | false => rw [hs] at e; cases e
          | true => rw [hs] at e; cases e; exact frz_sound (callBody_sound V K hex hr) hz hs
        · cases e
  | false =>
  rw [hfz] at e
  simp only [cond_false] at e
  cases hc : (C.pure f && (pn.isNone && noOwnL (noOwn deep) args)) with
  | false => rw [hc] at e; exact callBody_sound V K hex e
  | true =>
    rw [hc] at e
    simp only [Bool.and_eq_true, Option.isNone_iff_eq_none] at hc
    obtain ⟨_, rfl, hn⟩ := hc
    simp only [cond_true] at e
    cases hr : callBody C Fn f args Heap.empty none with
    | none => rw [hr] at e; cases e
    | some r =>
      rw [hr] at e
      exact pure_sound (callBody_sound V K hex hr) hn e

theorem callA_sound (V : Given C) (K : FnsOk C Fn) (hex : ∀ c, Sound C c (execA C Fn c)) {f : FuncId} {args : List AV} {pn : Option AV} {res : Res} (e : callA C Fn f args h pn = some res) : CallOk C f args h pn res := by
  unfold callA at e
  split at e
  · exact callA0_sound V K hex e
  · split at e
    · rename_i v hv
      cases e
      exact V.spec f args v hv h
    · exact callA0_sound V K hex e
end
end
end Go.Abs
namespace Go.Abs
noncomputable section
open Go
/-! ## Loops over functions -/
section
variable {C : Cfg} {Fn : Fns} {w : World} {F : Nat → Prop} {μ : Map} {h : Heap}
/-- the frame that stands for a round's -/
def roundFrame (l : Nat) (f : FuncId) : Frame := { (default : Frame) with fn := f, kind := .normal, roundOf := some l, tmps := #[] }
theorem round_eq (l : Nat) (f : FuncId) (tmps : Array Value) (x y : Code) : Frame.round l f tmps x y .normal = atR (roundFrame l f) { tmps, defers := [] } [.code x, .beginRound, .code y] := rfl

theorem stp_beginRound {P : Program} {l : Nat} {f : FuncId} {a : Act} {k : List Item} {cs : List Frame} {w : World} {r : Loop} (h : w.heap[l]? = some (.loop r)) (hr : r.state = .ready) :
    step P (lone (atR (roundFrame l f) a (.beginRound :: k)) cs w) = .next (lone (atR (roundFrame l f) a k) cs (w.putObj l (.loop { r with state := .busy }))) := by
  refine step_lone_go ?_
  simp [stepG, stepG.exec, stepG.apply, atR, roundFrame, Frame.finish, run_beginRound h hr, Result.andThen]

/-- a round is left -/
theorem stp_leaveRound {P : Program} {l : Nat} {f : FuncId} {a : Act} {todo : List Item} {c : Frame} {cs : List Frame} {w : World} {r : Loop} (jump : Option Code) (h : w.heap[l]? = some (.loop r))
    (ht : (todo = [] ∧ jump = none) ∨ (∃ k, todo = .code .ret :: k ∧ jump = some .ret) ∨ (∃ id k, todo = .code (.exit id) :: k ∧ exitTo id k = none ∧ jump = some (.exit id)) ∨ (∃ i k, todo = .code (.goto i) :: k ∧ gotoIn i k = none ∧ jump = some (.goto i))) :
    step P (lone (atR (roundFrame l f) a todo) (c :: cs) w) = .next (lone (c.finish (.bool jump.isNone)) cs (w.putObj l (.loop { r with state := if jump.isNone then .ready else .done, pending := jump }))) := by
  have he := run_endRound (P := P) jump h
  refine step_lone_go ?_
  rcases ht with ⟨rfl, rfl⟩ | ⟨k, rfl, rfl⟩ | ⟨id, k, rfl, hk, rfl⟩ | ⟨i, k, rfl, hk, rfl⟩
  · simp [stepG, stepG.exec, atR, roundFrame, he, doReturn]
  · simp [stepG, stepG.exec, atR, roundFrame, he, doReturn]
  · simp [stepG, stepG.exec, atR, roundFrame, he, doReturn, hk]
  · simp [stepG, stepG.exec, atR, roundFrame, he, doReturn, hk]

theorem get_set (h : Heap) (id : Nat) (b : Blk) (j : Nat) : (h.set id b).get j = if j = id then some b else h.get j := by
  unfold Heap.set Heap.get
  exact T.get_put ..

/-- a loop's record becomes another of the same temporaries -/
theorem HRel.setLoop (H : HRel w F μ h) {id : Nat} {bl : Blk} {n : Nat} {tm : T AV} {ps : Array Tmp} {x y : Code} {j : Option Code} {st : LoopState} (hb : h.get id = some bl) (hk : bl.kind = .loop n tm ps x y j st) (hf : bl.forked = false) {l o : Nat} (hm : μ id = some (l, o))
    {r : Loop} (hr : w.heap[l]? = some (.loop r)) (j' : Option Code) (st' : LoopState) :
    Go.Abs.Next w F μ (w.putObj l (.loop { r with state := st', pending := j' })) F μ ∧ HRel (w.putObj l (.loop { r with state := st', pending := j' })) F μ (h.set id (loopBlk id n tm ps x y j' st')) := by
  have hl : l < w.heap.size := (Array.getElem?_eq_some_iff.1 hr).1
  -- no other live block lies there
  have only : ∀ i bi, i ≠ id → h.get i = some bi → live bi → ∀ c o', μ i = some (c, o') → c ≠ l := by
    intro i bi hne hi hli c o' hmi e
    subst e
    have := (H.grp id i bl bi c o o' hb hi (by unfold live; rw [hk]; intro e; cases e) hli hm hmi).2.2 (Ne.symm hne)
    rw [hf] at this; cases this
  have N : Go.Abs.Next w F μ (w.putObj l (.loop { r with state := st', pending := j' })) F μ := by
    refine ⟨by simp, rfl, rfl, rfl, fun b _ hno => World.putObj_heap_other (fun e => hno id o (by rw [e]; exact hm)), Map.le_refl _, fun i c o' e => .inl ⟨i, o', e⟩, fun _ e => e, fun _ e => .inl e, ?_⟩
    intro i b o' hi c e f hc
    exact ⟨c, e, f, by rw [World.putObj_heap_other (fun e1 => by subst e1; rw [hr] at hc; cases hc)]; exact hc, rfl⟩
  have K := N.keeps H
  refine ⟨N, ?_⟩
  have cells_other : ∀ c cells el fr, w.heap[c]? = some (Obj.cells cells el fr) → (w.putObj l (.loop { r with state := st', pending := j' })).heap[c]? = some (Obj.cells cells el fr) := fun c cells el fr hc => by
    rw [World.putObj_heap_other (fun e1 => by subst e1; rw [hr] at hc; cases hc)]; exact hc
  refine ⟨?_, ?_, ?_, ?_, ?_, ?_, H.fresh, ?_, ?_⟩
  · intro i b hi hk'
    rw [get_set] at hi
    split at hi
    · cases hi; cases hk'
    · obtain ⟨c, o', m, cells, el, fr, q1, q2, q3, q4, q5⟩ := H.row i b hi hk'
      exact ⟨c, o', m, cells, el, fr, cells_other _ _ _ _ q1, q2, fun i a hi => let ⟨v, r1, r2⟩ := q3 i a hi; ⟨v, r1, Rel.mono a K v r2⟩, q4, q5⟩
  · intro i b s p hi hk'
    rw [get_set] at hi
    split at hi
    · cases hi; cases hk'
    · obtain ⟨c, o', m, q1, q2⟩ := H.iter i b s p hi hk'
      exact ⟨c, o', m, by rw [World.putObj_heap_other (fun e1 => by subst e1; rw [hr] at q1; cases q1)]; exact q1, q2⟩
  · intro i b n' tm' ps' x' y' jj stt hi hk'
    rw [get_set] at hi
    split at hi
    · rename_i e
      subst e
      cases hi
      cases hk'
      obtain ⟨l', o', hm', f, tmps, d, q1, q2, q3⟩ := H.loop i bl n tm ps x y j st hb hk
      rw [hm] at hm'; cases hm'
      rw [hr] at q1; cases q1
      exact ⟨l, o, hm, f, tmps, d, World.putObj_heap_same hl, q2, q3.mono K⟩
    · rename_i e
      obtain ⟨c, o', m, f, tmps, d, q1, q2, q3⟩ := H.loop i b n' tm' ps' x' y' jj stt hi hk'
      exact ⟨c, o', m, f, tmps, d, by rw [World.putObj_heap_other (only i b e hi (by unfold live; rw [hk']; intro e; cases e) c o' m)]; exact q1, q2, q3.mono K⟩
  · intro i k bi bk c oi ok hi hj li lk mi mk
    rw [get_set] at hi hj
    by_cases ei : i = id
    · subst ei
      rw [if_pos rfl] at hi; cases hi
      rw [hm] at mi; cases mi
      by_cases ek : k = i
      · subst ek
        rw [if_pos rfl] at hj; cases hj
        rw [hm] at mk; cases mk
        exact ⟨rfl, rfl, fun e => absurd rfl e⟩
      · rw [if_neg ek] at hj
        exact absurd rfl (only k bk ek hj lk _ _ mk)
    · rw [if_neg ei] at hi
      by_cases ek : k = id
      · subst ek
        rw [if_pos rfl] at hj; cases hj
        rw [hm] at mk; cases mk
        exact absurd rfl (only i bi ei hi li _ _ mi)
      · rw [if_neg ek] at hj
        exact H.grp i k bi bk c oi ok hi hj li lk mi mk
  · intro i b hi hk' c o' m
    rw [get_set] at hi
    split at hi
    · cases hi; cases hk'
    · obtain ⟨cells, fr, q1, q2⟩ := H.typ i b hi hk' c o' m
      exact ⟨cells, fr, cells_other _ _ _ _ q1, q2⟩
  · intro i b hi
    rw [get_set] at hi
    split at hi
    · rename_i e; subst e; exact H.lt i bl hb
    · exact H.lt i b hi
  · intro i c o' m; rw [World.putObj_size]; exact H.dom i c o' m
  · intro b hb'; rw [World.putObj_size]; exact H.sep b hb'

/-- the parameters are set -/
theorem putAll_sound : ∀ (ps : List Tmp) (as : List AV) (vs : List Value) (tm : T AV) (tmps : Array Value), (∀ p ∈ ps, p < tmps.size) → RelL w F as μ vs → TmR w F μ tm tmps → as.length = ps.length →
    TmR w F μ (putAll ps as tm) ((ps.zip vs).foldl (fun tmps (t, a) => tmps.setIfInBounds t a) tmps)
  | [], as, vs, tm, tmps, _, _, ht, _ => by
    have : putAll [] as tm = tm := by cases as <;> rfl
    rw [this]; exact ht
  | p :: ps, [], vs, tm, tmps, _, _, _, hl => by cases hl
  | p :: ps, a :: as, vs, tm, tmps, hlt, r, ht, hl => by
    unfold RelL at r
    obtain ⟨v, us, rfl, r1, r2⟩ := r
    show TmR w F μ (putAll ps as (tm.put p a)) ((ps.zip us).foldl _ (tmps.setIfInBounds p v))
    refine putAll_sound ps as us _ _ (fun q hq => by simpa using hlt q (List.mem_cons_of_mem _ hq)) r2 ?_ (by simpa using hl)
    intro i x hi
    rw [T.get_put] at hi
    by_cases e : i = p
    · subst e
      rw [if_pos rfl] at hi; cases hi
      exact ⟨v, by simp [hlt i (List.mem_cons_self ..)], r1⟩
    · rw [if_neg e] at hi
      obtain ⟨u, q1, q2⟩ := ht i x hi
      exact ⟨u, by simp [Array.getElem?_setIfInBounds, Ne.symm e, q1], q2⟩

theorem foldl_size : ∀ (l : List (Tmp × Value)) (tmps : Array Value), (l.foldl (fun tmps (t, a) => tmps.setIfInBounds t a) tmps).size = tmps.size
  | [], _ => rfl
  | (t, a) :: l, tmps => by
    show (l.foldl _ (tmps.setIfInBounds t a)).size = _
    rw [foldl_size l]; simp
end
end
end Go.Abs
namespace Go.Abs
noncomputable section
open Go
section
variable {C : Cfg} {Fn : Fns} {w : World} {F : Nat → Prop} {μ : Map} {h : Heap}
/-- what the end of a round's body says of the machine -/
def LeavesR (P : Program) (m : Machine) (l : Nat) (f : FuncId) (cs : List Frame) (w : World) (a : Act) (jump : Option Code) : Prop :=
  ∃ todo, ((todo = [] ∧ jump = none) ∨ (∃ k, todo = .code .ret :: k ∧ jump = some .ret) ∨ (∃ id k, todo = .code (.exit id) :: k ∧ exitTo id k = none ∧ jump = some (.exit id)) ∨ (∃ i k, todo = .code (.goto i) :: k ∧ gotoIn i k = none ∧ jump = some (.goto i))) ∧
    Steps P m (lone (atR (roundFrame l f) a todo) cs w)

theorem roundEnd_sound {P : Program} {id : Nat} {jump : Option Code} {s : St} {res : Res} (e : roundEnd id jump s = some res) (H : HRel w F μ s.h) {l o : Nat} (hm : μ id = some (l, o)) {m : Machine} {f : FuncId} {c : Frame} {cs : List Frame} {a : Act}
    (L : LeavesR P m l f (c :: cs) w a jump) : ∃ w', Go.Abs.Next w F μ w' F μ ∧ HRel w' F μ res.h ∧ match res with
        | .val a _ _ => ∃ v, Rel w' F a μ v ∧ Steps P m (lone (c.finish v) cs w')
        | .pan _ _ _ => False := by
  unfold roundEnd at e
  split at e
  · rename_i ptup hpn
    split at e
    · rename_i bl hb
      split at e
      · rename_i n tm ps x y j st hk
        cases hf : bl.forked with
        | true => rw [hf] at e; cases e
        | false =>
          rw [hf] at e
          cases e
          obtain ⟨l', o', hm', f', tmps, d, q1, q2, q3⟩ := H.loop id bl n tm ps x y j st hb hk
          rw [hm] at hm'; cases hm'
          obtain ⟨todo, ht, stp⟩ := L
          have hst := stp_leaveRound (P := P) (f := f) (a := a) (c := c) (cs := cs) jump q1 ht
          have hnj : (bif jump.isNone then LoopState.ready else LoopState.done) = if jump.isNone = true then LoopState.ready else LoopState.done := by cases jump.isNone <;> rfl
          obtain ⟨N, H'⟩ := H.setLoop hb hk hf hm q1 jump (bif jump.isNone then LoopState.ready else LoopState.done)
          rw [← hnj] at hst
          exact ⟨_, N, H', .bool jump.isNone, mk_bool _, stp.trans (.one hst)⟩
      · cases e
    · cases e
  · cases e

theorem yieldA_sound (hex : ∀ c, Sound C c (execA C Fn c)) {id : Nat} {args : List AV} {res : Res} (e : yieldA C Fn id args h = some res) : YieldOk C id args h res := by
  intro w F μ vs G H r l o hm
  unfold yieldA at e
  split at e
  · cases e
  · rename_i bl hb
    split at e
    · rename_i n tm ps x y jmp hk
      obtain ⟨l', o', hm', f, tmps, d, q1, q2, q3⟩ := H.loop id bl n tm ps x y jmp .ready hb hk
      rw [hm] at hm'; cases hm'
      cases hc : (Nat.beq (lenN args) ps.size && ps.toList.all (fun p => Nat.ble (Nat.succ p) n)) with
      | false => rw [hc] at e; cases e
      | true =>
        rw [hc] at e
        simp only [Bool.and_eq_true, List.all_eq_true] at hc
        obtain ⟨hc1, hc2⟩ := hc
        have hc1 := Nat.eq_of_beq_eq_true hc1
        rw [lenN_eq] at hc1
        have hlen := (RelL.get r).1
        have hsz : vs.size = ps.size := by simp at hlen; omega
        have hy := run_yield (P := C.P) (args := vs) q1 hsz
        refine ⟨_, _, _, _, hy, fun c cs => ?_⟩
        simp only [Bool.not_true, cond_false] at e
        have ht : TmR w F μ (putAll ps.toList args tm) ((ps.zip vs).foldl (fun tmps (t, a) => tmps.setIfInBounds t a) tmps) := by
          have := putAll_sound ps.toList args vs.toList tm tmps (fun p hp => by rw [q2]; exact Nat.le_of_ble_eq_true (hc2 p hp)) r q3 (by simp; omega)
          rw [← Array.foldl_toList, Array.toList_zip]
          exact this
        have hts : ((ps.zip vs).foldl (fun tmps (t, a) => tmps.setIfInBounds t a) tmps).size = n := by
          rw [← Array.foldl_toList, foldl_size, q2]
        have S : StR (roundFrame l f) (c :: cs) w F μ { n, tm := putAll ps.toList args tm, h, ds := [], pn := some (.tup []) } { tmps := (ps.zip vs).foldl (fun tmps (t, a) => tmps.setIfInBounds t a) tmps, defers := [] } :=
          ⟨hts, ht, H, .nil, trivial, Nat.zero_le _⟩
        rw [round_eq]
        split at e
        · rename_i s1 h1
          obtain ⟨a1, cs1, w1, F1, μ1, N1, S1, R1, c1⟩ := hex x _ _ h1 (roundFrame l f) [.beginRound, .code y] (c :: cs) w F μ _ G S
          have c1 : Steps C.P _ (lone (atR (roundFrame l f) a1 [.beginRound, .code y]) cs1 w1) := c1
          have S1 : StR (roundFrame l f) cs1 w1 F1 μ1 s1 a1 := S1
          split at e
          · rename_i h2 hbg
            unfold beginA at hbg
            split at hbg
            · cases hbg
            · rename_i bl1 hb1
              split at hbg
              · rename_i n' tm' ps' x' y' jump' hk1
                cases hf1 : bl1.forked with
                | true => rw [hf1] at hbg; cases hbg
                | false =>
                  rw [hf1] at hbg
                  cases hbg
                  have hm1 := N1.map _ _ hm
                  obtain ⟨l', o', hm', f', tmps', d', p1, p2, p3⟩ := S1.heap.loop id bl1 n' tm' ps' x' y' jump' .ready hb1 hk1
                  rw [hm1] at hm'; cases hm'
                  have hst := stp_beginRound (P := C.P) (f := f) (a := a1) (k := [.code y]) (cs := cs1) p1 rfl
                  obtain ⟨N2, H2⟩ := S1.heap.setLoop hb1 hk1 hf1 hm1 p1 jump' .busy
                  have K2 := N2.keeps S1.heap
                  have S2 : StR (roundFrame l f) cs1 _ F1 μ1 (s1.heap (s1.h.set id (loopBlk id n' tm' ps' x' y' jump' .busy))) a1 :=
                    ⟨S1.size, S1.tm.mono K2, H2, S1.ds.mono S1.heap N2, S1.pn.mono K2, Nat.zero_le _⟩
                  have G2 := (G.next H N1).next S1.heap N2
                  have N12 := N1.trans N2
                  have hm2 := N2.map _ _ hm1
                  have st12 : Steps C.P _ _ := Steps.trans c1 (.one hst)
                  -- the callers are as they were: a round recovers nothing of its own
                  unfold bodyEnd at e
                  have fin : ∀ (out : Out) (jump : Option Code), execA C Fn y (s1.heap (s1.h.set id (loopBlk id n' tm' ps' x' y' jump' .busy))) = some out → roundEnd id jump out.st = some res →
                      (∀ a' cs' w' F' μ', Comes' C.P (lone (atR (roundFrame l f) a1 [.code y]) cs1 (w1.putObj l (.loop { state := .busy, pending := jump', fn := f', tmps := tmps', params := ps', assign := x', body := y', defers := d' }))) (roundFrame l f) [] cs' w' F' μ' a' out → LeavesR C.P (lone (atR (roundFrame l f) a1 [.code y]) cs1 (w1.putObj l (.loop { state := .busy, pending := jump', fn := f', tmps := tmps', params := ps', assign := x', body := y', defers := d' }))) l f cs' w' a' jump) →
                      ∃ w' F' μ', Go.Abs.Next w F μ w' F' μ' ∧ HRel w' F' μ' res.h ∧ match (generalizing := false) res with
                        | .val a _ _ => ∃ v, Rel w' F' a μ' v ∧ Steps C.P (lone (atR (roundFrame l f) { tmps := (ps.zip vs).foldl (fun tmps (t, a) => tmps.setIfInBounds t a) tmps, defers := [] } [.code x, .beginRound, .code y]) (c :: cs) w) (lone (c.finish v) cs w')
                        | .pan a _ _ => ∃ v, Rel w' F' a μ' v ∧ Steps C.P (lone (atR (roundFrame l f) { tmps := (ps.zip vs).foldl (fun tmps (t, a) => tmps.setIfInBounds t a) tmps, defers := [] } [.code x, .beginRound, .code y]) (c :: cs) w) (lone (c.raise [{ v, recovered := false }]) cs w') := by
                    intro out jump hout he hL
                    obtain ⟨a2, cs2, w2, F2, μ2, N3, S3, R3, c3⟩ := hex y _ out hout (roundFrame l f) [] cs1 _ F1 μ1 a1 G2 S2
                    have hpn : ∃ us, out.st.pn = some (.tup us) := by
                      unfold roundEnd at he
                      split at he
                      · rename_i us hp; exact ⟨us, hp⟩
                      · cases he
                    obtain ⟨us, hpn⟩ := hpn
                    have hcs : cs2 = c :: cs := by
                      rcases R3 with ⟨rfl, hp⟩ | ⟨_, hp, _⟩
                      · rcases R1 with ⟨e1, _⟩ | ⟨_, hp1, _⟩
                        · exact e1
                        · rw [hpn] at hp
                          have hp : some (AV.tup us) = s1.pn := hp
                          rw [show s1.pn = none from hp1] at hp; cases hp
                      · rw [hpn] at hp; cases hp
                    subst hcs
                    obtain ⟨w4, N4, H4, hend⟩ := roundEnd_sound he S3.heap (N3.map _ _ hm2) (hL _ _ _ _ _ c3)
                    refine ⟨w4, F2, μ2, (N12.trans N3).trans N4, H4, ?_⟩
                    cases res with
                    | val z h' p =>
                      obtain ⟨v, r1, r2⟩ := hend
                      exact ⟨v, r1, st12.trans r2⟩
                    | pan z h' p => exact hend.elim
                  split at e
                  · rename_i s3 h3; exact fin _ none h3 e fun a' cs' w' F' μ' cc => ⟨[], .inl ⟨rfl, rfl⟩, cc⟩
                  · rename_i i s3 h3; exact fin _ (some (.exit i)) h3 e fun a' cs' w' F' μ' cc => by
                      obtain ⟨k', e1, cc⟩ := cc
                      exact ⟨_, .inr (.inr (.inl ⟨i, k', rfl, e1, rfl⟩)), cc⟩
                  · rename_i i s3 h3; exact fin _ (some (.goto i)) h3 e fun a' cs' w' F' μ' cc => by
                      obtain ⟨k', e1, cc⟩ := cc
                      exact ⟨_, .inr (.inr (.inr ⟨i, k', rfl, e1, rfl⟩)), cc⟩
                  · rename_i s3 h3; exact fin _ (some .ret) h3 e fun a' cs' w' F' μ' cc => by
                      obtain ⟨k', cc⟩ := cc
                      exact ⟨_, .inr (.inl ⟨k', rfl, rfl⟩), cc⟩
                  · cases e
                  · cases e
              · cases hbg
          · cases e
        · cases e
    · cases e
end
end
end Go.Abs
namespace Go.Abs
noncomputable section
open Go
section
variable {C : Cfg} {Fn : Fns} {w : World} {F : Nat → Prop} {μ : Map} {h : Heap}
/-- the frame within a loop over a function -/
def inLoopF (b : Frame) (a : Act) (l D : Nat) (k : List Item) : Frame := atR b { a with defers := { target := .collected D, args := #[] } :: a.defers } (.inRangeFunc l :: k)

section
variable {P : Program} {b : Frame} {a : Act} {k : List Item} {cs : List Frame}
theorem stpG_rangeFunc {f : Operand} {ps : Array Tmp} {x y : Code} {g : FuncId} {u v : Array Value} (hb : b.roundOf = none) (hf : a.eval f = .func (.func g) u v) :
    (stepG P true { frame := atR b a (.code (.rangeFunc f ps x y) :: k), callers := cs, status := .running, dying := none } w).bare =
      (stepG.apply P true (inLoopF b a (w.heap.size + 1) w.heap.size k) cs none (callFunc g (u ++ #[.func (.yield (w.heap.size + 1)) #[] #[]] ++ v))
        ((w.alloc (.deferred (some []))).alloc (.loop { state := .ready, pending := none, fn := b.fn, tmps := a.tmps, params := ps, assign := x, body := y, defers := w.heap.size }))).bare := by
  have he := eval_atR b { a with defers := { target := .collected w.heap.size, args := #[] } :: a.defers } (.inRangeFunc (w.heap.size + 1) :: k) f
  simp only [atR] at he
  have hf' : ({ a with defers := { target := .collected w.heap.size, args := #[] } :: a.defers } : Act).eval f = .func (.func g) u v := by
    rw [← hf]; cases f <;> rfl
  rw [hf', hb] at he
  simp only [stepG, stepG.exec, atR, hb, Sem.runT_eq, run_enterLoop_outer, GStep.bare_after, inLoopF, List.cons_append, List.nil_append]
  congr 1
  have hmap : ∀ (fr : Frame) (z : Value), Array.map fr.eval #[.const z] = #[z] := fun fr z => by simp [Frame.eval]
  simp only [resolve, he, Deferred.ofValue, pure_bind, invoke, hmap]

theorem finish_inLoop (b : Frame) (a : Act) (l D : Nat) (k : List Item) (v : Value) : (inLoopF b a l D k).finish v = atR b { a with defers := { target := .collected D, args := #[] } :: a.defers } (.endRangeFunc l :: k) := rfl

theorem stp_endRange {l : Nat} {r : Loop} (h : w.heap[l]? = some (.loop r)) (hr : r.state ≠ .busy) :
    step P (lone (atR b a (.endRangeFunc l :: k)) cs w) = .next (lone (atR b a ((r.pending.map Item.code).toList ++ k)) cs (w.putObj l (.loop { r with state := .exhausted }))) := by
  refine step_lone_go ?_
  simp [stepG, stepG.exec, atR, run_endLoop h hr]
end
theorem DefR.marks {n0 : Nat} {ds : List ADef} {cd : List Deferred} (r : DefR n0 w F μ ds cd) : ∀ d ∈ cd, ∀ D', d.target = .collected D' → D' < w.heap.size := by
  induction r with
  | nil => intro d hd; cases hd
  | call _ _ ih =>
    intro d hd D' he
    rcases List.mem_cons.1 hd with rfl | hd
    · cases he
    · exact ih d hd D' he
  | mark h1 _ _ _ _ _ ih =>
    intro d hd D' he
    rcases List.mem_cons.1 hd with rfl | hd
    · cases he; exact (Array.getElem?_eq_some_iff.1 h1).1
    · exact ih d hd D' he

/-- the loop's end -/
theorem rangeEnd_sound (K : FnsOk C Fn) {id l o : Nat} {s : St} {out : Out} (e : rangeEnd Fn id s h = some out) {b : Frame} {a : Act} {k : List Item} {cs : List Frame} (G : GRel C w F) (H : HRel w F μ h) (hm : μ id = some (l, o)) (S : StR b cs w F μ (s.heap h) a) :
    Tells C (lone (atR b a (.endRangeFunc l :: k)) cs w) b k cs w F μ s.pn out := by
  unfold rangeEnd at e
  split at e
  · cases e
  · rename_i bl hb
    split at e
    · rename_i n tm ps x y jump st hk
      cases hf : bl.forked with
      | true => rw [hf] at e; cases e
      | false =>
        rw [hf] at e
        simp only [cond_false] at e
        obtain ⟨l', o', hm', f, tmps, d, q1, q2, q3⟩ := H.loop id bl n tm ps x y jump st hb hk
        rw [hm] at hm'; cases hm'
        have hst : st ≠ .busy := by intro e1; subst e1; cases e
        obtain ⟨N, H'⟩ := H.setLoop hb hk hf hm q1 jump .exhausted
        have K' := N.keeps H
        have S' : StR b cs _ F μ (s.heap (h.set id (loopBlk id n tm ps x y jump .exhausted))) a := ⟨S.size, S.tm.mono K', H', S.ds.mono H N, S.pn.mono K', Nat.le_trans S.base N.size⟩
        have hs := stp_endRange (P := C.P) (b := b) (a := a) (k := k) (cs := cs) q1 hst
        have e : (match (generalizing := false) jump with
          | some j => Fn.exec j (s.heap (h.set id (loopBlk id n tm ps x y jump .exhausted)))
          | none => some (.nrm (s.heap (h.set id (loopBlk id n tm ps x y jump .exhausted))))) = some out := by
          cases st <;> first | exact absurd rfl hst | exact e
        cases jump with
        | none =>
          cases e
          exact ⟨a, cs, _, F, μ, N, S', CsR.refl _ _, .one hs⟩
        | some j =>
          obtain ⟨a2, cs2, w2, F2, μ2, N2, S2, R2, c2⟩ := K.exec j _ _ e b k cs _ F μ a (G.next H N) S'
          exact ⟨a2, cs2, w2, F2, μ2, N.trans N2, S2, R2, c2.of_steps (.one hs)⟩
    · cases e

theorem rangeFunc_sound (K : FnsOk C Fn) (f : Operand) (ps : Array Tmp) (x y : Code) : Sound C (.rangeFunc f ps x y) (rangeA C Fn f ps x y) := by
  intro s out e b k cs w F μ a G S
  unfold rangeA at e
  cases hin : inRound s with
  | true => rw [hin] at e; cases e
  | false =>
    rw [hin] at e
    simp only [cond_false] at e
    have hro : b.roundOf = none := by
      have hp := S.pn
      unfold PnR at hp
      unfold inRound at hin
      split at hp
      · exact hp.1
      · rename_i us h; rw [h] at hin; cases hin
      · exact hp.1
    split at e
    · rename_i g args hg
      have hf := rel_operand (μ := μ) G S.tm f
      -- the world with the loop's record
      have H0 : HRel (w.alloc (.deferred (some []))) F μ s.h := S.heap.later (Next.alloc w F μ _ S.heap.dom) (fun id c o hm => heap_alloc_old w _ c (S.heap.dom id c o hm)) (fun _ => rfl) (Nat.le_refl _) rfl (fun b hb => ⟨Nat.lt_of_lt_of_le (S.heap.sep b hb).1 (by simp), (S.heap.sep b hb).2⟩)
      have N0 := Next.alloc w F μ (.deferred (some [])) S.heap.dom
      have hnone := H0.none_next
      have N1 := Next.allocAt (w.alloc (.deferred (some []))) F μ (.loop { state := .ready, pending := none, fn := b.fn, tmps := a.tmps, params := ps, assign := x, body := y, defers := w.heap.size }) H0.dom hnone
      have hsz : (w.alloc (.deferred (some []))).heap.size = w.heap.size + 1 := by simp
      have hT : TmR ((w.alloc (.deferred (some []))).alloc (.loop { state := .ready, pending := none, fn := b.fn, tmps := a.tmps, params := ps, assign := x, body := y, defers := w.heap.size })) F (μ.set s.h.next ((w.alloc (.deferred (some []))).heap.size, 0)) s.tm a.tmps := (S.tm.mono (N0.keeps S.heap)).mono (N1.keeps H0)
      have H1 := H0.addAt (h' := s.h.add (loopBlk s.h.next s.n s.tm ps x y none .ready)) (b := loopBlk s.h.next s.n s.tm ps x y none .ready) (.loop { state := .ready, pending := none, fn := b.fn, tmps := a.tmps, params := ps, assign := x, body := y, defers := w.heap.size }) hnone
        (fun j => by unfold Heap.add Heap.get; exact T.get_put ..) (by simp [Heap.add]) (by simp [Heap.add]) (fun e => by cases e) (fun e => by cases e) (fun s p e => by cases e)
        (fun n tm ps' x' y' j st e => by
          cases e
          exact ⟨b.fn, a.tmps, w.heap.size, heap_alloc_new _ _, S.size, hT⟩)
      have N01 := N0.trans N1
      have G1 := (G.next S.heap N0).next H0 N1
      have hm1 : (μ.set s.h.next ((w.alloc (.deferred (some []))).heap.size, 0)) s.h.next = some (w.heap.size + 1, 0) := by rw [Map.set_same, hsz]
      have hD1 : ((w.alloc (.deferred (some []))).alloc (.loop { state := .ready, pending := none, fn := b.fn, tmps := a.tmps, params := ps, assign := x, body := y, defers := w.heap.size })).heap[w.heap.size]? = some (.deferred (some [])) := by
        rw [heap_alloc_old _ _ _ (by simp), heap_alloc_new]
      -- the call
      have hrec := rel_operand (μ := μ.set s.h.next ((w.alloc (.deferred (some []))).heap.size, 0)) G1 hT f
      have hy : RelL ((w.alloc (.deferred (some []))).alloc (.loop { state := .ready, pending := none, fn := b.fn, tmps := a.tmps, params := ps, assign := x, body := y, defers := w.heap.size })) F [.fn (.yield s.h.next) [] []] (μ.set s.h.next ((w.alloc (.deferred (some []))).heap.size, 0)) (#[Value.func (.yield (w.heap.size + 1)) #[] #[]] : Array Value).toList := by
        unfold RelL
        refine ⟨_, [], rfl, ?_, by unfold RelL; rfl⟩
        unfold Rel
        exact ⟨_, #[], #[], rfl, ⟨_, _, hm1, rfl⟩, by unfold RelL; rfl, by unfold RelL; rfl⟩
      obtain ⟨u, v, huv, rv⟩ := calleeA_inl hg hrec hy
      have hmark : DefR b.tmps.size ((w.alloc (.deferred (some []))).alloc (.loop { state := .ready, pending := none, fn := b.fn, tmps := a.tmps, params := ps, assign := x, body := y, defers := w.heap.size })) F (μ.set s.h.next ((w.alloc (.deferred (some []))).heap.size, 0)) s.ds ({ target := .collected w.heap.size, args := #[] } :: a.defers) := by
        refine .mark hD1 (fun id o e => ?_) (fun e => by have := (S.heap.sep _ e).1; omega) S.base (fun d hd D' he => ?_) ((S.ds.mono S.heap N0).mono H0 N1)
        · by_cases e1 : id = s.h.next
          · subst e1; rw [hm1] at e; have := congrArg (Option.map Prod.fst) e; simp at this
          · rw [Map.set_other _ _ e1] at e; have := S.heap.dom id _ o e; omega
        · exact S.ds.marks d hd D' he
      have hstep := stpG_rangeFunc (P := C.P) (w := w) (cs := cs) (k := k) (ps := ps) (x := x) (y := y) hro huv
      have SA : ∀ (cs' : List Frame) (w' : World) (F' : Nat → Prop) (μ' : Map) (h' : Heap), Go.Abs.Next w F μ w' F' μ' → Go.Abs.Next ((w.alloc (.deferred (some []))).alloc (.loop { state := .ready, pending := none, fn := b.fn, tmps := a.tmps, params := ps, assign := x, body := y, defers := w.heap.size })) F (μ.set s.h.next ((w.alloc (.deferred (some []))).heap.size, 0)) w' F' μ' → HRel w' F' μ' h' → StR b cs w' F' μ' (s.heap h') { a with defers := { target := .collected w.heap.size, args := #[] } :: a.defers } := fun cs' w' F' μ' h' N' N'' H' =>
        ⟨S.size, S.tm.mono (N'.keeps S.heap), H', hmark.mono H1 N'', S.pn.mono (N'.keeps S.heap), Nat.le_trans S.base N'.size⟩
      cases hcall : Fn.call g args (s.h.add (loopBlk s.h.next s.n s.tm ps x y none .ready)) none with
      | none => rw [hcall] at e; cases e
      | some res =>
        rw [hcall] at e
        rcases K.call g args _ none res hcall _ F _ _ G1 H1 rv with ⟨v', w', F', μ', z, h', hc, rfl, N, H', _⟩ | ⟨hc, hgo⟩
        · have Nw := N01.trans N
          have hs : step C.P (lone (atR b a (.code (.rangeFunc f ps x y) :: k)) cs w) = .next (lone (atR b { a with defers := { target := .collected w.heap.size, args := #[] } :: a.defers } (.endRangeFunc (w.heap.size + 1) :: k)) cs w') := by
            refine step_lone_go ?_
            rw [hstep, ← finish_inLoop b a (w.heap.size + 1) w.heap.size k v']
            simp only [stepG.apply, Sem.runT_eq, hc, GStep.bare_after, if_true]
            rfl
          obtain ⟨a2, cs2, w2, F2, μ2, N2, S2, R2, c2⟩ := rangeEnd_sound (k := k) K e (G1.next H1 N) H' (N.map _ _ hm1) (SA cs w' F' μ' h' Nw N H')
          exact ⟨a2, cs2, w2, F2, μ2, Nw.trans N2, S2, R2, c2.of_steps (.one hs)⟩
        · have hs : step C.P (lone (atR b a (.code (.rangeFunc f ps x y) :: k)) cs w) = .next (lone (Frame.enter C.P g (u ++ #[.func (.yield (w.heap.size + 1)) #[] #[]] ++ v) .normal) (inLoopF b a (w.heap.size + 1) w.heap.size k :: cs)
              ((w.alloc (.deferred (some []))).alloc (.loop { state := .ready, pending := none, fn := b.fn, tmps := a.tmps, params := ps, assign := x, body := y, defers := w.heap.size }))) := by
            refine step_lone_go ?_
            rw [hstep]
            simp only [stepG.apply, Sem.runT_eq, hc, GStep.bare_after, if_true]
            rfl
          obtain ⟨en, fr, cs', w', F', μ', N, H', R, _, st, hfn, hkind, hgoing, hend⟩ := hgo .normal (inLoopF b a (w.heap.size + 1) w.heap.size k :: cs) (.inl rfl) ⟨rfl, fun fr hfr => by unfold tryRecover; rw [hfr]; rfl⟩
          have hcs : cs' = inLoopF b a (w.heap.size + 1) w.heap.size k :: cs := by
            rcases R with ⟨h, _⟩ | ⟨h, _⟩
            · exact h
            · cases h
          subst hcs
          have Nw := N01.trans N
          cases res with
          | val z h' p =>
            obtain ⟨v', rfl, r⟩ := hend
            obtain ⟨g1, g2, g3⟩ := hgoing
            have h2 := step_leave_returned (c := inLoopF b a (w.heap.size + 1) w.heap.size k) (cs := cs) (show fr.leaving C.P w' (.returned v') from ⟨g1, g2, hkind, g3⟩)
            rw [finish_inLoop] at h2
            obtain ⟨a2, cs2, w2, F2, μ2, N2, S2, R2, c2⟩ := rangeEnd_sound (k := k) K e (G1.next H1 N) H' (N.map _ _ hm1) (SA cs w' F' μ' h' Nw N H')
            exact ⟨a2, cs2, w2, F2, μ2, Nw.trans N2, S2, R2, c2.of_steps (.head hs (st.trans (.one h2)))⟩
          | pan z h' p =>
            obtain ⟨v', rfl, r⟩ := hend
            have h2 := step_leave_panicked (c := inLoopF b a (w.heap.size + 1) w.heap.size k) (cs := cs) (show fr.leaving C.P w' (.panicked [{ v := v', recovered := false }]) from hgoing)
            cases e
            exact ⟨_, cs, w', F', μ', Nw, SA cs w' F' μ' h' Nw N H', CsR.refl _ _, v', _, r, .head hs (st.trans (.one h2))⟩
    · cases e
end
end
end Go.Abs
namespace Go.Abs
noncomputable section
open Go
/-! ## One operation of a drawn region, told with what it writes -/
section
variable {C : Cfg} {w : World} {F : Nat → Prop} {μ : Map}
variable {b : Frame} {a : Act} {k : List Item} {cs : List Frame} {ops : Array Oper} {i : Nat} {rest : List Nat} {o : Oper} {t : T AV} {h : Heap} {Fn : Fns}
def ofRes : Option Res → Option ((AV × Heap) ⊕ (AV × Heap))
  | some (.val v h _) => some (.inl (v, h))
  | some (.pan v h _) => some (.inr (v, h))
  | none => none
def opRes (C : Cfg) (F : Fns) (o : Oper) (tm : T AV) (h : Heap) : Option ((AV × Heap) ⊕ (AV × Heap)) :=
  match o.op with
  | .call c => match c.callee with
    | .builtin b => (builtinA C h b c.argTypes (evalL C tm c.args.toList)).map .inl
    | .value f => match calleeA (evalO C tm f) (evalL C tm c.args.toList) with
      | some (.inl g, args) => ofRes (F.call g args h none)
      | some (.inr id, args) => ofRes (F.yield id args h)
      | none => none
    | .invoke _ _ => none
  | op => (opA C tm h op).map .inl

/-- what the machine does: a value is written, or a panic begins -/
def OpTells (P : Program) (b : Frame) (a : Act) (k : List Item) (cs : List Frame) (ops : Array Oper) (i : Nat) (rest : List Nat) (o : Oper) (w : World) (F : Nat → Prop) (μ : Map) : (AV × Heap) ⊕ (AV × Heap) → Prop
  | .inl (x, h') => ∃ v w' F' μ', Go.Abs.Next w F μ w' F' μ' ∧ HRel w' F' μ' h' ∧ Rel w' F' x μ' v ∧ Steps P (lone (atR b a (.inRegion ops (i :: rest) :: k)) cs w) (lone (atR b (a.put o.dst v) (.inRegion ops rest :: k)) cs w')
  | .inr (x, h') => ∃ v todo w' F' μ', Go.Abs.Next w F μ w' F' μ' ∧ HRel w' F' μ' h' ∧ Rel w' F' x μ' v ∧ Steps P (lone (atR b a (.inRegion ops (i :: rest) :: k)) cs w) (lone { atR b a todo with mode := .panicking [{ v, recovered := false }] } cs w')
theorem opTells_ok (ho : ops[i]? = some o) (hw : Region.wanted o (yielded ops a.tmps) = true) (hd : ∀ c, o.op ≠ .defer c) {x : AV} {h' : Heap} (k1 : OpOk C w F μ (execOp a.eval o) x h') :
    OpTells C.P b a k cs ops i rest o w F μ (.inl (x, h')) := by
  obtain ⟨nx, w', μ', hr, hv, N, H⟩ := k1
  rcases hv with ⟨v, rfl, r0⟩ | ⟨rfl, r0⟩
  · exact ⟨v, w', F, μ', N, H, r0, .one (stp_value ho hw (.inr hd) hr)⟩
  · exact ⟨undef, w', F, μ', N, H, r0, .one (stp_unit ho hw (.inr hd) hr)⟩

theorem opTells_call (K : FnsOk C Fn) (ho : ops[i]? = some o) (hw : Region.wanted o (yielded ops a.tmps) = true) (hd : ∀ c, o.op ≠ .defer c) (G : GRel C w F) (H : HRel w F μ h) {g : FuncId} {args : List AV} {vs : Array Value} (rv : RelL w F args μ vs.toList)
    (hrun : (execOp a.eval o).run C.P w = (callFunc g vs).run C.P w) {r : (AV × Heap) ⊕ (AV × Heap)} (e : ofRes (Fn.call g args h none) = some r) :
    OpTells C.P b a k cs ops i rest o w F μ r := by
  cases hres : Fn.call g args h none with
  | none => rw [hres] at e; cases e
  | some res =>
    rw [hres] at e
    rcases K.call g args h none res hres w F μ vs G H rv with ⟨v, w', F', μ', x, h', hc, rfl, N, H', r0⟩ | ⟨hc, hgo⟩
    · cases e
      exact ⟨v, w', F', μ', N, H', r0, .one (stp_value ho hw (.inr hd) (hrun.trans hc))⟩
    · obtain ⟨en, fr, cs', w', F', μ', N, H', R, _, st, hfn, hkind, hgoing, hend⟩ := hgo .normal (atR b a (.inRegion ops (i :: rest) :: k) :: cs) (.inl rfl) ⟨rfl, fun fr hfr => by unfold tryRecover; rw [hfr]; rfl⟩
      have hcs : cs' = atR b a (.inRegion ops (i :: rest) :: k) :: cs := by
        rcases R with ⟨h, _⟩ | ⟨h, _⟩
        · exact h
        · cases h
      subst hcs
      have h1 := stp_enter (b := b) (cs := cs) (k := k) (rest := rest) ho hw (.inr hd) (hrun.trans hc)
      cases res with
      | val x h' p =>
        obtain ⟨v, rfl, r0⟩ := hend
        cases e
        obtain ⟨g1, g2, g3⟩ := hgoing
        have h2 := step_leave_returned (c := atR b a (.inRegion ops (i :: rest) :: k)) (cs := cs) (show fr.leaving C.P w' (.returned v) from ⟨g1, g2, hkind, g3⟩)
        rw [finish_op ho] at h2
        exact ⟨v, w', F', μ', N, H', r0, .head h1 (st.trans (.one h2))⟩
      | pan x h' p =>
        obtain ⟨v, rfl, r0⟩ := hend
        cases e
        have h2 := step_leave_panicked (c := atR b a (.inRegion ops (i :: rest) :: k)) (cs := cs) (show fr.leaving C.P w' (.panicked [{ v, recovered := false }]) from hgoing)
        exact ⟨v, _, w', F', μ', N, H', r0, .head h1 (st.trans (.one h2))⟩

theorem opTells_yield (K : FnsOk C Fn) (ho : ops[i]? = some o) (hw : Region.wanted o (yielded ops a.tmps) = true) (hd : ∀ c, o.op ≠ .defer c) (G : GRel C w F) (H : HRel w F μ h) {id l lo : Nat} (hm : μ id = some (l, lo)) {args : List AV} {vs : Array Value} (rv : RelL w F args μ vs.toList)
    (hrun : (execOp a.eval o).run C.P w = (Instr.yield l vs).run C.P w) {r : (AV × Heap) ⊕ (AV × Heap)} (e : ofRes (Fn.yield id args h) = some r) :
    OpTells C.P b a k cs ops i rest o w F μ r := by
  cases hres : Fn.yield id args h with
  | none => rw [hres] at e; cases e
  | some res =>
    rw [hres] at e
    obtain ⟨f, tmps, x, y, hy, hgo⟩ := K.yield id args h res hres w F μ vs G H rv l lo hm
    obtain ⟨w', F', μ', N, H', hend⟩ := hgo (atR b a (.inRegion ops (i :: rest) :: k)) cs
    have h1 := stp_round (b := b) (cs := cs) (k := k) (rest := rest) ho hw (.inr hd) (hrun.trans hy)
    cases res with
    | val z h' p =>
      obtain ⟨v, r0, st⟩ := hend
      cases e
      rw [finish_op ho] at st
      exact ⟨v, w', F', μ', N, H', r0, .head h1 st⟩
    | pan z h' p =>
      obtain ⟨v, r0, st⟩ := hend
      cases e
      exact ⟨v, _, w', F', μ', N, H', r0, .head h1 st⟩

theorem mapInl {x : OR} {r : (AV × Heap) ⊕ (AV × Heap)} (e : x.map Sum.inl = some r) : ∃ y h', x = some (y, h') ∧ r = .inl (y, h') := by
  cases x with
  | none => cases e
  | some p => cases e; exact ⟨p.1, p.2, rfl, rfl⟩

/-- one operation -/
theorem oper_tells (K : FnsOk C Fn) (ho : ops[i]? = some o) (hw : Region.wanted o (yielded ops a.tmps) = true) (hx : cls C o.op ≠ .x) (G : GRel C w F) (H : HRel w F μ h) (T : TmR w F μ t a.tmps) {r : (AV × Heap) ⊕ (AV × Heap)} (e : opRes C Fn o t h = some r) :
    OpTells C.P b a k cs ops i rest o w F μ r := by
  have ev : ∀ l : Array Operand, RelL w F (evalL C t l.toList) μ (l.map a.eval).toList := fun l => rel_array G T l
  unfold opRes at e
  split at e
  · rename_i c hop
    have hd : ∀ c, o.op ≠ .defer c := by intro c' h; rw [hop] at h; cases h
    split at e
    · rename_i bi hc
      obtain ⟨x, h', e1, rfl⟩ := mapInl e
      refine opTells_ok (C := C) ho hw hd ?_
      obtain ⟨nx, w', μ', q1, q2⟩ := builtin_sound (C := C) (ty := o.type) (cs := c.args.map fun | .const _ => true | _ => false) H (ev c.args) e1
      exact ⟨nx, w', μ', (exec_builtin hop hc).trans q1, q2⟩
    · rename_i f hc
      have hf := rel_operand (μ := μ) G T f
      split at e
      · rename_i g args hg
        obtain ⟨x, y, hx, rv⟩ := calleeA_inl hg hf (ev c.args)
        exact opTells_call K ho hw hd G H rv (exec_value hop hc hx) e
      · rename_i id args hg
        obtain ⟨l, lo, hm, hx, rfl⟩ := calleeA_inr hg hf
        exact opTells_yield K ho hw hd G H hm (ev c.args) (exec_yield hop hc hx) e
      · cases e
    · cases e
  · rename_i hnc
    have hd : ∀ c, o.op ≠ .defer c := fun c h => hx (by rw [h]; rfl)
    obtain ⟨x, h', e1, rfl⟩ := mapInl e
    exact opTells_ok (C := C) ho hw hd (opA_sound G H T e1)

/-! ### an operation looks at nothing but its operands -/
def Agree (C : Cfg) (t u : T AV) (l : List Operand) : Prop := ∀ x ∈ l, evalO C t x = evalO C u x

theorem evalL_congr {t u : T AV} : ∀ {l : List Operand}, Agree C t u l → evalL C t l = evalL C u l
  | [], _ => rfl
  | x :: l, h => by
    unfold evalL
    rw [h x (List.mem_cons_self ..), evalL_congr (l := l) fun y hy => h y (List.mem_cons_of_mem _ hy)]
theorem evalParts_congr {t u : T AV} : ∀ {l : List (Nat × Operand)}, Agree C t u (l.map (·.2)) → evalParts C t l = evalParts C u l
  | [], _ => rfl
  | (i, x) :: l, h => by
    unfold evalParts
    rw [h x (by simp), evalParts_congr (l := l) fun y hy => h y (by simp at hy ⊢; exact .inr hy)]
theorem optO_congr {t u : T AV} {x : Option Operand} (h : Agree C t u x.toList) : optO C t x = optO C u x := by
  cases x with
  | none => rfl
  | some x => show some (evalO C t x) = some (evalO C u x); rw [h x (by simp)]

theorem opA_congr {t u : T AV} (h : Heap) {o : Op} (hx : cls C o ≠ .x) (A : Agree C t u o.operands.toList) : opA C t h o = opA C u h o := by
  have two : ∀ {x y : Operand}, Agree C t u [x, y] → evalO C t x = evalO C u x ∧ evalO C t y = evalO C u y := fun A => ⟨A _ (by simp), A _ (by simp)⟩
  cases o <;> try exact absurd rfl hx
  case move x => unfold opA; simp only; rw [A x (by simp [Op.operands])]
  case assign x => unfold opA; simp only; rw [A x (by simp [Op.operands])]
  case pick c a b => unfold opA; simp only; rw [A c (by simp [Op.operands]), A a (by simp [Op.operands]), A b (by simp [Op.operands])]
  case alloc t => rfl
  case box t x => unfold opA; simp only; rw [A x (by simp [Op.operands])]
  case build t ps => unfold opA; simp only; rw [evalParts_congr (by simpa [Op.operands] using A)]
  case buildSlice t n ps => unfold opA; simp only; rw [evalParts_congr (by simpa [Op.operands] using A)]
  case load t x => unfold opA; simp only; rw [A x (by simp [Op.operands])]
  case store t a x => unfold opA; simp only; rw [A a (by simp [Op.operands]), A x (by simp [Op.operands])]
  case nilCheck x => unfold opA; simp only; rw [A x (by simp [Op.operands])]
  case binOp op t x y u => unfold opA; simp only; rw [A x (by simp [Op.operands]), A y (by simp [Op.operands])]
  case unOp op t x => unfold opA; simp only; rw [A x (by simp [Op.operands])]
  case convert s d x => unfold opA; simp only; rw [A x (by simp [Op.operands])]
  case makeInterface t x => unfold opA; simp only; rw [A x (by simp [Op.operands])]
  case makeFunc f a b => unfold opA; simp only; rw [evalL_congr (l := a.toList) fun y hy => A y (by simp [Op.operands] at hy ⊢; exact .inl hy), evalL_congr (l := b.toList) fun y hy => A y (by simp [Op.operands] at hy ⊢; exact .inr hy)]
  case makeSlice t l c => unfold opA; simp only; rw [A l (by simp [Op.operands]), A c (by simp [Op.operands])]
  case slice t x l h m =>
    unfold opA; simp only
    rw [A x (by simp [Op.operands]), optO_congr (x := l) fun y hy => A y (by simp [Op.operands] at hy ⊢; simp [hy]), optO_congr (x := h) fun y hy => A y (by simp [Op.operands] at hy ⊢; simp [hy]), optO_congr (x := m) fun y hy => A y (by simp [Op.operands] at hy ⊢; simp [hy])]
  case fieldAddr t x f => unfold opA; simp only; rw [A x (by simp [Op.operands])]
  case field t x f => unfold opA; simp only; rw [A x (by simp [Op.operands])]
  case indexAddr t x i => unfold opA; simp only; rw [A x (by simp [Op.operands]), A i (by simp [Op.operands])]
  case index t x i => unfold opA; simp only; rw [A x (by simp [Op.operands]), A i (by simp [Op.operands])]
  case extract x i => unfold opA; simp only; rw [A x (by simp [Op.operands])]
  case typeAssert x t as ok => unfold opA; simp only; rw [A x (by simp [Op.operands])]
  case next x b => cases b <;> unfold opA <;> simp only; rw [A x (by simp [Op.operands])]
  case call c => rfl
end
end
end Go.Abs
namespace Go.Abs
noncomputable section
open Go
/-! ## An operation's answer, apart from the state -/
section
variable {C : Cfg} {w : World} {F : Nat → Prop} {μ : Map} {Fn : Fns} {o : Oper} {t u : T AV} {h : Heap}
/-- the state behind it -/
def outOf (s : St) (dst : Option Tmp) : (AV × Heap) ⊕ (AV × Heap) → Out
  | .inl (x, h) => .nrm (s.set dst x h)
  | .inr (x, h) => .pan x (s.heap h)

theorem operA_eq (hx : cls C o.op ≠ .x) (s : St) : operA C Fn o s = (opRes C Fn o s.tm s.h).map (outOf s o.dst) := by
  unfold operA opRes
  have fin : ∀ r : OR, putO s o.dst r = Option.map (outOf s o.dst) (Option.map Sum.inl r) := by
    intro r; unfold putO; cases r <;> rfl
  split
  · rename_i c hop
    rw [hop]
    unfold callOp
    dsimp only
    have res : ∀ r : Option Res, goOn s o.dst r = Option.map (outOf s o.dst) (ofRes r) := by
      intro r; unfold goOn ofRes
      cases r with
      | none => rfl
      | some r => cases r <;> rfl
    cases hc : c.callee with
    | builtin bi =>
      have hb : clsB bi ≠ .x := by intro e; exact hx (by rw [hop]; simp only [cls, hc, e])
      cases bi <;> first | exact absurd rfl hb | exact fin _
    | value f =>
      dsimp only
      cases calleeA (evalO C s.tm f) (evalL C s.tm c.args.toList) with
      | none => rfl
      | some p =>
        obtain ⟨g, args⟩ := p
        cases g with
        | inl g => exact res _
        | inr id => exact res _
    | invoke _ _ => rfl
  · rename_i c hop
    exact absurd (by rw [hop]; rfl) hx
  · rename_i x hop
    exact absurd (by rw [hop]; rfl) hx
  · rename_i h1 h2 h3
    split
    · rename_i c hop; exact absurd hop (h1 c)
    · exact fin _

theorem opRes_congr (h : Heap) (hx : cls C o.op ≠ .x) (A : Agree C t u o.op.operands.toList) : opRes C Fn o t h = opRes C Fn o u h := by
  unfold opRes
  split
  · rename_i c hop
    rw [hop] at A
    have A : Agree C t u ((match c.callee with | .value f => [f] | .invoke r _ => [r] | .builtin _ => []) ++ c.args.toList) := by
      intro x hx
      refine A x ?_
      simp only [Op.operands, Call.operands]
      cases hc : c.callee <;> simp [hc] at hx ⊢ <;> exact hx
    have hl : evalL C t c.args.toList = evalL C u c.args.toList := evalL_congr fun y hy => A y (List.mem_append_right _ hy)
    split
    · rw [hl]
    · rename_i f hc
      rw [hc] at A
      rw [hl, A f (by simp)]
    · rfl
  · rw [opA_congr h hx A]

/-! ### what touches no memory -/
theorem keepQ {h' : Heap} {x : Option AV} {y : AV} (e : (keep Heap.empty x).map Sum.inl = some (Sum.inl (y, h') : (AV × Heap) ⊕ (AV × Heap))) : h' = Heap.empty ∧ ∀ h, (keep h x).map Sum.inl = some (Sum.inl (y, h) : (AV × Heap) ⊕ (AV × Heap)) := by
  cases x with
  | none => cases e
  | some x => cases e; exact ⟨rfl, fun h => rfl⟩

theorem builtinQ {bi : Builtin} {ts : Array TypeId} {args : List AV} {y : AV} {h' : Heap} (hq : clsB bi = .q) (e : (builtinA C Heap.empty bi ts args).map Sum.inl = some (Sum.inl (y, h') : (AV × Heap) ⊕ (AV × Heap))) :
    h' = Heap.empty ∧ ∀ h, (builtinA C h bi ts args).map Sum.inl = some (Sum.inl (y, h) : (AV × Heap) ⊕ (AV × Heap)) := by
  unfold builtinA at e ⊢
  cases hz : Nat.beq ts.size 0 with
  | true => rw [hz] at e; cases e
  | false =>
    simp only [hz, cond_false] at e ⊢
    split at e
    · split at e <;> first | (cases hq; done) | exact keepQ e | (cases e; done)
    · split at e <;> first | (cases hq; done) | exact keepQ e | (cases e; done)
    · cases e

theorem opQ {y : AV} {h' : Heap} (hq : cls C o.op = .q) (e : opRes C Fn o t Heap.empty = some (.inl (y, h'))) : h' = Heap.empty ∧ ∀ h, opRes C Fn o t h = some (.inl (y, h)) := by
  unfold opRes at e ⊢
  have sm : ∀ {x : AV}, (some (x, Heap.empty) : OR).map Sum.inl = some (Sum.inl (y, h') : (AV × Heap) ⊕ (AV × Heap)) → h' = Heap.empty ∧ ∀ h, (some (x, h) : OR).map Sum.inl = some (Sum.inl (y, h) : (AV × Heap) ⊕ (AV × Heap)) := by
    intro x e; cases e; exact ⟨rfl, fun _ => rfl⟩
  split at e
  · rename_i c hop
    rw [hop] at hq
    split at e
    · rename_i bi hc
      simp only [cls, hc] at hq
      exact builtinQ hq e
    · rename_i f hc
      simp only [cls, hc] at hq; cases hq
    · cases e
  · rename_i op hnc
    cases hop : o.op <;> rw [hop] at e hq <;> try (cases hq; done)
    case call c => exact absurd hop (hnc c)
    case move => exact sm e
    case assign => exact sm e
    case pick => exact keepQ e
    case build => exact keepQ e
    case nilCheck => exact keepQ e
    case binOp => exact keepQ e
    case unOp => exact keepQ e
    case makeInterface => exact keepQ e
    case makeFunc => exact keepQ e
    case fieldAddr => exact keepQ e
    case field => exact keepQ e
    case indexAddr => exact keepQ e
    case index => exact keepQ e
    case extract => exact keepQ e
    case typeAssert => exact keepQ e
    case slice ty x lo hi mx =>
      have key : ∀ z, opSlice C Heap.empty ty (evalO C t x) (optO C t lo) (optO C t hi) (optO C t mx) = some z → ∀ h, opSlice C h ty (evalO C t x) (optO C t lo) (optO C t hi) (optO C t mx) = some z := by
        intro z hz h
        unfold opSlice at hz ⊢
        split at hz
        · exact hz
        · exact hz
        · rename_i n el hu
          have hrow : inRow Heap.empty (evalO C t x) (Nat.mul n (sizeT C el)) = inRow h (evalO C t x) (Nat.mul n (sizeT C el)) ∨ inRow Heap.empty (evalO C t x) (Nat.mul n (sizeT C el)) = false := by
            unfold inRow
            split
            · right; rfl
            · left; rfl
          rcases hrow with hr | hr
          · rw [← hr]; exact hz
          · rw [hr] at hz
            simp at hz
        · cases hz
      cases hz : opSlice C Heap.empty ty (evalO C t x) (optO C t lo) (optO C t hi) (optO C t mx) with
      | none => unfold opA at e; simp only [hz] at e; cases e
      | some z =>
        unfold opA at e ⊢
        simp only [hz] at e
        cases e
        refine ⟨rfl, fun h => ?_⟩
        simp only [key _ hz h]
        rfl
    case convert s d x =>
      simp only [cls] at hq
      unfold opA at e ⊢
      simp only [opConvert] at e ⊢
      cases hs : (C.P.underlying s).isSome with
      | false => rw [hs] at e; cases e
      | true =>
        rw [hs] at e
        simp only [Bool.not_true, cond_false] at e ⊢
        split at hq
        · cases hq
        · cases hq
        · rename_i k hd
          rw [hd] at e ⊢
          simp only at e ⊢
          split at e
          · exact sm e
          · cases e
        · cases hq

/-! ### what reads -/
theorem cellsAt_congr {h h2 : Heap} {id off n : Nat} (e : h2.get id = h.get id) : cellsAt h2 id off n = cellsAt h id off n := by
  unfold cellsAt; rw [e]

theorem opL {y : AV} {h' : Heap} (hq : cls C o.op = .l) (e : opRes C Fn o t h = some (.inl (y, h'))) : h' = h ∧ ∀ h2, (∀ id, readId C t o.op = some id → h2.get id = h.get id) → opRes C Fn o t h2 = some (.inl (y, h2)) := by
  unfold opRes at e ⊢
  split at e
  · rename_i c hop
    rw [hop] at hq
    simp only [cls] at hq
    split at hq
    · rename_i bi _; cases bi <;> cases hq
    · cases hq
    · cases hq
  · rename_i op hnc
    cases hop : o.op <;> rw [hop] at e hq <;> try (cases hq; done)
    case call c => exact absurd hop (hnc c)
    case load ty p =>
      unfold opA at e ⊢
      simp only at e ⊢
      have key : ∀ h2 : Heap, (∀ id, readId C t (.load ty p) = some id → h2.get id = h.get id) → opLoad C h2 ty (evalO C t p) = opLoad C h ty (evalO C t p) := by
        intro h2 hid
        unfold opLoad readAt
        cases hp : evalO C t p <;> try rfl
        rename_i id off
        simp only
        rw [cellsAt_congr (hid id (by unfold readId; simp only [hp]))]
      cases hz : opLoad C h ty (evalO C t p) with
      | none => rw [hz] at e; cases e
      | some z =>
        rw [hz] at e
        cases e
        exact ⟨rfl, fun h2 hid => by rw [key h2 hid, hz]; rfl⟩
    case convert s d x =>
      simp only [cls] at hq
      unfold opA at e ⊢
      simp only [opConvert] at e ⊢
      cases hs : (C.P.underlying s).isSome with
      | false => rw [hs] at e; cases e
      | true =>
        rw [hs] at e
        simp only [Bool.not_true, cond_false] at e ⊢
        split at hq
        · cases hq
        · rename_i hd
          rw [hd] at e ⊢
          simp only at e ⊢
          cases hx : evalO C t x with
          | str q => rw [hx] at e; cases e; exact ⟨rfl, fun _ _ => rfl⟩
          | int k n => rw [hx] at e; cases e; exact ⟨rfl, fun _ _ => rfl⟩
          | _ =>
            rw [hx] at e
            simp only at e ⊢
            unfold convBytes at e ⊢
            split at e
            · rename_i el hel
              cases hu : isU8 (C.P.underlying el) with
              | false => rw [hu] at e; cases e
              | true =>
                simp only [hu, cond_true] at e ⊢
                split at e
                · rename_i n hn
                  split at e
                  · rename_i cs hcs
                    split at e
                    · rename_i q hq2
                      cases e
                      refine ⟨rfl, fun h2 hid => ?_⟩
                      have : firstA h2 1 n (evalO C t x) = some cs := by
                        rw [hx]
                        first
                          | exact hcs
                          | (unfold firstA at hcs ⊢
                             simp only at hcs ⊢
                             rw [cellsAt_congr (hid _ (by unfold readId; simp only [hx]))]
                             exact hcs)
                      rw [hx] at this
                      simp only [this, hq2]
                      rfl
                    · cases e
                  · cases e
                · cases e
            · cases e
        · cases hq
        · cases hq
end
end
end Go.Abs
namespace Go.Abs
noncomputable section
open Go
/-! ## Operations that make a block, told with the block that they make -/
section
variable {C : Cfg} {w : World} {F : Nat → Prop} {μ : Map} {Fn : Fns} {o : Oper} {t u : T AV} {h : Heap}
/-- a new row of cells at the memory's end -/
structure Fresh (w : World) (F : Nat → Prop) (μ : Map) (c : Nat) (mk : Nat → AV) (el : Nat) (whole : Bool) (as : List AV) (u : Value) (cells : Array Value) (fr : Nat × Nat) : Prop where
  le : as.length ≤ cells.size
  rel : ∀ (i : Nat) a, as[i]? = some a → ∃ v, cells[i]? = some v ∧ Rel w F a μ v
  one : ∀ x ∈ cells.toList, one x = true
  whole : whole = true → cells.size = as.length
  frOk : ∀ i, i < cells.size → ¬ (fr.1 ≤ i ∧ i < fr.2)
  val : ∀ (w' : World) (F' : Nat → Prop) (μ' : Map) (id : Nat), w'.heap[c]? = some (.cells cells el fr) → μ' id = some (c, 0) → Rel w' F' (mk id) μ' u

def AllocOk (C : Cfg) (w : World) (F : Nat → Prop) (μ : Map) (m : Sem Go.Next) (mk : Nat → AV) (el : Nat) (whole : Bool) (as : List AV) : Prop :=
  ∃ u cells fr d, m.run C.P w = .ok (.value u) (({ w with drawn := d } : World).alloc (.cells cells el fr)) ∧ Fresh w F μ w.heap.size mk el whole as u cells fr

theorem newVar_alloc (ty : TypeId) {as : List AV} {v : Value} (r : RelL w F as μ v.cells.toList) (h1 : ∀ x ∈ v.cells.toList, one x = true) :
    AllocOk C w F μ (do pure (.value (.pointer (some (← newVar ty v))))) (fun id => .ptrO id 0) ty true as := by
  have hlen := (RelL.get r).1
  simp only [Array.length_toList] at hlen
  refine ⟨.pointer (some ⟨w.heap.size, 0, none⟩), v.cells, (0, 0), w.drawn, by simp [newVar, newRow], by omega, (fun i a hi => by simpa using relL_get r hi), h1, (fun _ => by omega), (fun i _ => by simp), ?_⟩
  intro w' F' μ' id _ hm
  unfold Rel
  exact ⟨w.heap.size, 0, hm, rfl⟩

theorem newSlice_alloc (el : TypeId) (whole : Bool) {as : List AV} {cells : Array Value} (hl : RelL w F as μ cells.toList) (h1 : ∀ x ∈ cells.toList, one x = true) {len cap es : Nat} {ex : Bool} (hlen : len ≤ cap) (hsz : cap * es ≤ cells.size) {s : Sem Value}
    (hr : s.run C.P w = .ok (.slice (some ⟨w.heap.size, 0, none⟩) len cap) (w.alloc (.cells cells el))) : AllocOk C w F μ (do pure (.value (← s))) (fun id => .slO id 0 es len cap ex) el whole as := by
  have hl1 := (RelL.get hl).1
  simp only [Array.length_toList] at hl1
  refine ⟨.slice (some ⟨w.heap.size, 0, none⟩) len cap, cells, (0, 0), w.drawn, by simp [hr], by omega, (fun i a hi => by simpa using relL_get hl hi), h1, (fun _ => by omega), (fun i _ => by simp), ?_⟩
  intro w' F' μ' id hw hm
  unfold Rel
  exact ⟨w.heap.size, 0, _, cap, hm, rfl, hlen, Nat.le_refl _, fun _ => rfl, fun _ => ⟨rfl, cells, el, (0, 0), hw, by simpa using hsz⟩⟩

theorem strBytes_alloc (el : TypeId) (s : List UInt8) {sm : Sem Value} (hr : sm.run C.P w = .ok (.slice (some ⟨w.heap.size, 0, none⟩) s.length (grownCap w s.length 0 el)) (Lib.bytesWorld w el ⟨⟨s⟩⟩)) :
    AllocOk C w F μ (do pure (.value (← sm))) (fun id => .slO id 0 1 (lenN s) (lenN s) false) el false (bytesCells s) := by
  rw [bytesWorld_eq] at hr
  have hge : s.length ≤ grownCap w s.length 0 el := grownCap_ge w _ _ _
  have hsz : (Lib.bytesCells w el ⟨⟨s⟩⟩).size = grownCap w s.length 0 el := by
    simp [Lib.bytesCells]
    show s.length + (grownCap w s.length 0 el - s.length) = _
    omega
  have hlen : (bytesCells s).length = s.length := by rw [bytesCells_eq]; simp
  refine ⟨.slice (some ⟨w.heap.size, 0, none⟩) s.length (grownCap w s.length 0 el), Lib.bytesCells w el ⟨⟨s⟩⟩, ((Lib.bytesCells w el ⟨⟨s⟩⟩).size, (Lib.bytesCells w el ⟨⟨s⟩⟩).size + 1), w.drawn + 1, by simp [hr], by omega, ?_, ?_, (fun e => by cases e), (fun i hi => by simp; omega), ?_⟩
  · intro i a hi
    have hlt : i < s.length := by have := (List.getElem?_eq_some_iff.1 hi).1; omega
    obtain ⟨v, q1, q2⟩ := relL_get (w := w) (F := F) (μ := μ) (relL_bytes s) hi
    refine ⟨v, ?_, q2⟩
    rw [← q1]
    simp [Lib.bytesCells, Array.getElem?_append, hlt]
  · intro x hx
    simp [Lib.bytesCells] at hx
    rcases hx with ⟨b, _, rfl⟩ | ⟨_, rfl⟩ <;> rfl
  · intro w' F' μ' id hw hm
    unfold Rel
    rw [lenN_eq]
    exact ⟨w.heap.size, 0, _, _, hm, rfl, Nat.le_refl _, hge, (fun e => by cases e), fun _ => ⟨rfl, _, el, _, hw, by rw [hsz]; omega⟩⟩

theorem AllocOk.run {m m' : Sem Go.Next} {mk : Nat → AV} {el : Nat} {whole : Bool} {as : List AV} (e : m.run C.P w = m'.run C.P w) (k : AllocOk C w F μ m mk el whole as) : AllocOk C w F μ m' mk el whole as := by
  obtain ⟨u, cells, fr, d, q1, q2⟩ := k
  exact ⟨u, cells, fr, d, e ▸ q1, q2⟩

/-- an operation that makes a block: the same one in every heap -/
theorem opAl {y : AV} {h' : Heap} (hq : cls C o.op = .a) (e : opRes C Fn o t h = some (.inl (y, h'))) :
    ∃ mk el whole as, (∀ h2 : Heap, opRes C Fn o t h2 = some (.inl (mk h2.next, h2.new el whole as))) ∧
      ∀ (t2 : T AV), Agree C t2 t o.op.operands.toList → ∀ (w : World) (F : Nat → Prop) (μ : Map) (a : Act), GRel C w F → TmR w F μ t2 a.tmps → AllocOk C w F μ (execOp a.eval o) mk el whole as := by
  unfold opRes at e
  split at e
  · rename_i c hop
    rw [hop] at hq
    simp only [cls] at hq
    split at hq
    · rename_i bi _; cases bi <;> cases hq
    · cases hq
    · cases hq
  · rename_i op hnc
    have hopR : ∀ h2 : Heap, opRes C Fn o t h2 = (opA C t h2 o.op).map .inl := by
      intro h2
      unfold opRes
      split
      · rename_i c hc; exact absurd hc (hnc c)
      · rfl
    cases hop : o.op <;> rw [hop] at e hq <;> try (cases hq; done)
    case call c => exact absurd hop (hnc c)
    case alloc ty =>
      have e : (opAlloc C h ty).map Sum.inl = some (.inl (y, h')) := e
      unfold opAlloc at e
      split at e
      · rename_i z hz
        refine ⟨fun id => .ptrO id 0, ty, true, z, fun h2 => ?_, fun t2 A w F μ a G T => ?_⟩
        · rw [hopR, hop]
          show (opAlloc C h2 ty).map Sum.inl = _
          unfold opAlloc
          rw [hz]; rfl
        · obtain ⟨i, v, hi, hzv, r, h1, _⟩ := rel_zero (w := w) (F := F) (μ := μ) hz
          refine (newVar_alloc (C := C) ty r h1).run ?_
          unfold execOp
          rw [hop]
          simp [Instr.alloc, run_zero hi hzv]
      · cases e
    case box ty x =>
      have e : (opBox h ty (evalO C t x)).map Sum.inl = some (.inl (y, h')) := e
      unfold opBox at e
      cases hp : plainA (evalO C t x) with
      | false => rw [hp] at e; cases e
      | true =>
        refine ⟨fun id => .ptrO id 0, ty, true, (evalO C t x).cells, fun h2 => ?_, fun t2 A w F μ a G T => ?_⟩
        · rw [hopR, hop]
          show (opBox h2 ty (evalO C t x)).map Sum.inl = _
          unfold opBox
          rw [hp]; rfl
        · obtain ⟨r', h1⟩ := plain_cells hp (A x (by simp [Op.operands]) ▸ rel_operand (μ := μ) G T x)
          refine (newVar_alloc (C := C) ty r' h1).run ?_
          unfold execOp
          rw [hop]
          simp [Instr.box]
    case makeSlice ty l c =>
      have e : (opMakeSlice C h ty (evalO C t l) (evalO C t c)).map Sum.inl = some (.inl (y, h')) := e
      unfold opMakeSlice at e
      split at e
      · rename_i el l' c' hu hl hc
        cases hb : (Nat.ble l' c' && roomOk c' (bytesT C el)) with
        | false => simp only [hb, cond_false] at e; cases e
        | true =>
          simp only [hb, cond_true] at e
          have hb0 := hb
          rw [Bool.and_eq_true] at hb
          have hlc := Nat.le_of_ble_eq_true hb.1
          obtain ⟨hroom, h62⟩ := room_of hb.2
          split at e
          · rename_i z hz
            refine ⟨fun id => .slO id 0 (sizeT C el) l' c' true, el, true, repCells z c', fun h2 => ?_, fun t2 A w F μ a G T => ?_⟩
            · rw [hopR, hop]
              show (opMakeSlice C h2 ty (evalO C t l) (evalO C t c)).map Sum.inl = _
              unfold opMakeSlice
              simp only [hu, hl, hc, hb0, cond_true, hz]; rfl
            · have rl := rel_operand (μ := μ) G T l
              rw [A l (by simp [Op.operands])] at rl
              have rc := rel_operand (μ := μ) G T c
              rw [A c (by simp [Op.operands])] at rc
              obtain ⟨i, v, hi, hzv, r, h1, l1, l2⟩ := rel_zero (w := w) (F := F) (μ := μ) hz
              obtain ⟨k1, hk1⟩ := natOf_int hl rl
              obtain ⟨k2, hk2⟩ := natOf_int hc rc
              obtain ⟨r1, o1⟩ := rel_rep r h1 l1 l2 c'
              have hbt : bytesT C el = i.bytes := by simp [bytesT, hi]
              rw [hbt] at hroom
              have hz3 : ((i.bytes * c' : Nat) : Int) ≤ 281474976710656 := by rw [Nat.mul_comm] at hroom; omega
              rw [Int.natCast_mul] at hz3
              have hm := run_make (P := C.P) w ty el i v hu hi hzv k1 k2 l' c' (by omega) (by omega) hz3 (by omega)
              simp only [Int.toNat_natCast] at hm
              refine (newSlice_alloc (C := C) el true r1 o1 hlc ?_ hm).run ?_
              · rw [size_madeCells, sizeT_eq hi]; exact Nat.le_refl _
              · unfold execOp
                rw [hop]
                simp only [hk1, hk2]
          · cases e
      · cases e
    case buildSlice ty len ps =>
      have e : (opBuildSlice C h ty len (evalParts C t ps.toList)).map Sum.inl = some (.inl (y, h')) := e
      unfold opBuildSlice at e
      split at e
      · rename_i el hu
        split at e
        · rename_i z hz
          split at e
          · rename_i cs hf
            cases hb : Nat.ble (Nat.mul len (sizeT C el)) 16777216 with
            | false => simp only [hb, cond_false] at e; cases e
            | true =>
              simp only [hb, cond_true] at e
              have hle : len * sizeT C el ≤ 16777216 := Nat.le_of_ble_eq_true hb
              refine ⟨fun id => .slO id 0 (sizeT C el) len len true, el, true, cs, fun h2 => ?_, fun t2 A w F μ a G T => ?_⟩
              · rw [hopR, hop]
                show (opBuildSlice C h2 ty len (evalParts C t ps.toList)).map Sum.inl = _
                unfold opBuildSlice
                simp only [hu, hz, hf, hb, cond_true]; rfl
              · have rp := relP_of (μ := μ) G T ps.toList
                rw [evalParts_congr (u := t) (by simpa [Op.operands] using A)] at rp
                obtain ⟨i, v, hi, hzv, r, h1, l1, l2⟩ := rel_zero (w := w) (F := F) (μ := μ) hz
                rw [sizeT_eq hi] at hle hf ⊢
                obtain ⟨r1, o1⟩ := rel_rep r h1 l1 l2 len
                obtain ⟨cells, q1, q2, q3, q4, q5⟩ := fill_sound (place' := fun k => some (k * i.size, i.size)) (fun _ _ e => e) _ _ _ _ _ hf rp r1 o1
                refine AllocOk.run ?_ (newSlice_alloc (C := C) el true q2 q3 (Nat.le_refl _) (by rw [q4, size_madeCells]; exact Nat.le_refl _) (s := Instr.buildSlice ty len (ps.toList.map fun (i, x) => (i, a.eval x)).toArray) ?_)
                · have hps : (ps.toList.map fun (i, x) => (i, a.eval x)).toArray = ps.map fun (i, x) => (i, a.eval x) := by rw [← Array.toList_map, Array.toArray_toList]
                  unfold execOp
                  rw [hop]
                  simp only [hps]
                · by_cases h0 : len * i.size = 0
                  · have hm : (Array.range 0).map (fun x => (#[] : Array Value)[x % (#[] : Array Value).size]!) = madeCells v.cells 0 := by simp [madeCells]
                    rw [h0] at q1
                    have q1' : Instr.fill (fun k => some (k * i.size, i.size)) ((Array.range 0).map fun _ => (default : Value)) (ps.toList.map fun (i, x) => (i, a.eval x)) = some cells := by
                      rw [← q1]; congr 1
                    simp [Instr.buildSlice, run_underlying hu, sizeOf, typeInfo, hi, h0, newRow, q1']
                  · exact run_buildSlice w ty el len _ cells i v hu hi hzv (by omega) h0 q1
          · cases e
        · cases e
      · cases e
    case convert s d x =>
      have e : (opConvert C h s d (evalO C t x)).map Sum.inl = some (.inl (y, h')) := e
      simp only [cls] at hq
      split at hq
      · rename_i el hd
        unfold opConvert at e
        cases hsk : C.P.underlying s with
        | none => simp [hsk] at e
        | some us =>
          simp only [hsk, Option.isSome_some, Bool.not_true, cond_false, hd] at e
          cases hx : evalO C t x <;> rw [hx] at e <;> try (cases e; done)
          rename_i q
          cases hu : isU8 (C.P.underlying el) with
          | false => simp only [hu, cond_false] at e; cases e
          | true =>
            refine ⟨fun id => .slO id 0 1 (lenN q) (lenN q) false, el, false, bytesCells q, fun h2 => ?_, fun t2 A w F μ a G T => ?_⟩
            · rw [hopR, hop]
              show (opConvert C h2 s d (evalO C t x)).map Sum.inl = _
              unfold opConvert
              simp only [hsk, Option.isSome_some, Bool.not_true, cond_false, hd, hx, hu, cond_true]; rfl
            · have r := rel_operand (μ := μ) G T x
              rw [A x (by simp [Op.operands]), hx] at r
              refine (strBytes_alloc (C := C) el q (Lib.run_convert_string_bytes w s d el ⟨⟨q⟩⟩ hsk hd (isU8_eq hu))).run ?_
              unfold execOp
              rw [hop]
              simp only [rel_str r]
      · cases hq
      · cases hq
      · cases hq
end
end
end Go.Abs
