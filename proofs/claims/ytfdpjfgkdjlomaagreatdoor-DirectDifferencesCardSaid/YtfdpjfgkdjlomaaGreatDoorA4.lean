/- A part of the proof of DirectDifferences: see the last text of this claim. -/
import Derived.KernelRfl
import GoSem.ClaimFn
import Derived.Test.YtfdpjfgkdjlomaaGreatDoorA3
import Derived.Test.YtfdpjfgkdjlomaaGreatDoorA0
namespace Go.Abs
noncomputable section
open Go
/-! ## Going through code by a machine of small steps, from one stop to the next -/
/-- what comes behind: code; a block's end; a round's end -/
inductive Fr where
  | seq (c : Code)
  | blk (id : Nat)
  | lp (R : St → Prop)
inductive Ps where
  | code (c : Code)
  | ops (ops : Array Oper) (l : List Oper)
structure X where
  p : Ps
  k : List Fr
  s : St
section
variable (C : Cfg) (F : Fns)
def unw : List Fr → Out → (Out → Prop) → Prop
  | [], o, Q => Q o
  | .seq c :: k, o, Q => match o with | .nrm s => W C F c s (fun o => unw k o Q) | o => unw k o Q
  | .blk id :: k, o, Q => match o with | .ext j s => if j = id then unw k (.nrm s) Q else unw k (.ext j s) Q | o => unw k o Q
  | .lp R :: k, o, Q => match o with | .nrm s => R s | o => unw k o Q
def WK (x : X) (Q : Out → Prop) : Prop :=
  match x.p with
  | .code c => W C F c x.s (fun o => unw C F x.k o Q)
  | .ops ops l => WO C F ops l x.s (fun o => unw C F x.k (outR C.trim ops o) Q)
/-- behind code that ended -/
def popK (k : List Fr) : St → Option X :=
  List.rec (fun _ => none) (fun f k ih s => match f with
    | .seq c => some ⟨.code c, k, s⟩
    | .blk _ => ih s
    | .lp R => some ⟨.code .skip, .lp R :: k, s⟩) k
def exitK (id : Nat) (k : List Fr) : St → Option X :=
  List.rec (fun _ => none) (fun f k ih s => match f with
    | .seq _ => ih s
    | .blk j => bif Nat.beq j id then some ⟨.code .skip, k, s⟩ else ih s
    | .lp _ => ih s) k
def stepX (x : X) : Option X :=
  match x.p with
  | .code c => match c with
    | .skip => match x.k with | .lp _ :: _ => none | k => popK k x.s
    | .label _ => some ⟨.code .skip, x.k, x.s⟩
    | .region _ ops dr => bif dr then none else some ⟨.ops ops ops.toList, x.k, x.s⟩
    | .seq a b => some ⟨.code a, .seq b :: x.k, x.s⟩
    | .cond y a b => match evalO C x.s.tm y with | .bool t => some ⟨.code (bif t then a else b), x.k, x.s⟩ | _ => none
    | .block id c => some ⟨.code c, .blk id :: x.k, x.s⟩
    | .exit id => exitK id x.k x.s
    | _ => none
  | .ops ops l => match l with
    | [] => some ⟨.code .skip, x.k, forgetR C.trim ops x.s⟩
    | o :: l => match wantedA ops x.s.tm o with
      | some true => match operA C F o x.s with
        | some (.nrm s) => some ⟨.ops ops l, x.k, s⟩
        | _ => none
      | some false => some ⟨.ops ops l, x.k, x.s.set o.dst (.tup []) x.s.h⟩
      | none => none
def goX (n : Nat) : X → Option X := Nat.rec (fun x => some x) (fun _ ih x => match stepX C F x with | some y => ih y | none => none) n
def goN (n : Nat) (x : X) : X := match goX C F n x with | some y => y | none => x
/-- did it go so far? -/
def okX (n : Nat) (x : X) : Bool := match goX C F n x with | some _ => true | none => false
end
section
variable {C : Cfg} {F : Fns} {x y : X} {Q : Out → Prop}
theorem popK_ok : ∀ {k : List Fr} {s : St} {y : X}, popK k s = some y → WK C F y Q → unw C F k (.nrm s) Q
  | [], _, _, h, _ => by cases h
  | .seq c :: k, s, y, h, w => by cases h; exact w
  | .blk id :: k, s, y, h, w => popK_ok (k := k) (show popK k s = some y from h) w
  | .lp R :: k, s, y, h, w => by
    cases h
    obtain ⟨out, e, q⟩ := w
    cases e
    exact q
theorem exitK_ok {id : Nat} : ∀ {k : List Fr} {s : St} {y : X}, exitK id k s = some y → WK C F y Q → unw C F k (.ext id s) Q
  | [], _, _, h, _ => by cases h
  | .seq c :: k, s, y, h, w => exitK_ok (k := k) (show exitK id k s = some y from h) w
  | .lp R :: k, s, y, h, w => exitK_ok (k := k) (show exitK id k s = some y from h) w
  | .blk j :: k, s, y, h, w => by
    have h : (bif Nat.beq j id then some (⟨.code .skip, k, s⟩ : X) else exitK id k s) = some y := h
    show (if id = j then unw C F k (.nrm s) Q else unw C F k (.ext id s) Q)
    by_cases hj : id = j
    · subst hj
      rw [Nat.beq_refl] at h
      cases h
      rw [if_pos rfl]
      obtain ⟨out, e, q⟩ := w
      cases e
      exact q
    · rw [if_neg hj]
      rw [show Nat.beq j id = false by cases hb : Nat.beq j id with | false => rfl | true => exact absurd (Nat.eq_of_beq_eq_true hb).symm hj] at h
      exact exitK_ok (k := k) h w
theorem stepX_ok (h : stepX C F x = some y) (w : WK C F y Q) : WK C F x Q := by
  obtain ⟨p, k, s⟩ := x
  unfold stepX at h
  cases p with
  | code c =>
    simp only at h
    show W C F c s (fun o => unw C F k o Q)
    split at h
    · refine W.skip ?_
      split at h
      · cases h
      · exact popK_ok h w
    · cases h; refine W.label ?_
      obtain ⟨out, e, q⟩ := w
      cases e; exact q
    · rename_i id ops dr
      cases dr with
      | true => cases h
      | false => cases h; exact W.region w
    · cases h; refine W.seq ?_
      exact w.mono fun o q => q
    · rename_i z a b
      split at h
      · rename_i t ht
        cases h
        refine W.cond t ht (fun e => ?_) (fun e => ?_)
        · subst e; exact w
        · subst e; exact w
      · cases h
    · cases h; refine W.block ?_
      exact w.mono fun o q => q
    · exact W.exit (exitK_ok h w)
    · cases h
  | ops ops l =>
    simp only at h
    show WO C F ops l s (fun o => unw C F k (outR C.trim ops o) Q)
    split at h
    · cases h
      obtain ⟨out, e, q⟩ := w
      cases e; exact ⟨_, rfl, q⟩
    · rename_i o l
      split at h
      · rename_i hw
        split at h
        · rename_i s' he
          cases h
          obtain ⟨out, e, q⟩ := w
          exact ⟨out, by rw [opsA_cons, hw]; simp only; rw [he]; exact e, q⟩
        · cases h
      · rename_i hw
        cases h
        obtain ⟨out, e, q⟩ := w
        exact ⟨out, by rw [opsA_cons, hw]; exact e, q⟩
      · cases h
theorem goX_ok : ∀ (n : Nat) {x y : X}, goX C F n x = some y → WK C F y Q → WK C F x Q
  | 0, x, y, h, w => by cases h; exact w
  | n + 1, x, y, h, w => by
    have h : (match stepX C F x with | some y => goX C F n y | none => none) = some y := h
    split at h
    · rename_i z hz; exact stepX_ok hz (goX_ok n h w)
    · cases h
theorem goN_ok {n : Nat} (h : okX C F n x = true) (w : WK C F (goN C F n x) Q) : WK C F x Q := by
  unfold okX at h
  unfold goN at w
  split at h
  · rename_i y hy; rw [hy] at w; exact goX_ok n hy w
  · cases h
theorem goX_N {n : Nat} (h : goX C F n x = some y) : goN C F n x = y := by unfold goN; rw [h]
/-- a value put as an equal one -/
def X.put (x : X) (i : Nat) (v : AV) : X := ⟨x.p, x.k, x.s.put i v⟩
theorem WK.put {i : Nat} {v v' : AV} (hv : v = v') (hg : x.s.tm.get i = some v) (w : WK C F (x.put i v') Q) : WK C F x Q := by
  unfold X.put at w; rw [St.put_eq hv hg] at w; exact w
/-- what a temporary holds after so many steps -/
def tmX (C : Cfg) (F : Fns) (n : Nat) (x : X) (i : Nat) : Option AV := match goX C F n x with | some y => y.s.tm.get i | none => none
theorem tmX_some {n i : Nat} {v : AV} (h : tmX C F n x i = some v) : ∃ y, goX C F n x = some y ∧ y.s.tm.get i = some v := by
  unfold tmX at h
  split at h
  · rename_i y hy; exact ⟨y, hy, h⟩
  · cases h
/-- s: a bool is looked at: both ways. p: a value is an equal one -/
theorem WK.s (n i : Nat) (b : Bool) (h1 : b = true → WK C F ((goN C F n x).put i (.bool true)) Q) (h0 : b = false → WK C F ((goN C F n x).put i (.bool false)) Q) (h : tmX C F n x i = some (.bool b) := by kernel_rfl) : WK C F x Q := by
  obtain ⟨y, hy, hg⟩ := tmX_some h
  rw [goX_N hy] at h1 h0
  refine goX_ok n hy ?_
  cases b with
  | true => exact WK.put rfl hg (h1 rfl)
  | false => exact WK.put rfl hg (h0 rfl)
theorem WK.p (n i : Nat) {v v' : AV} (hv : v = v') (w : WK C F ((goN C F n x).put i v') Q) (h : tmX C F n x i = some v := by kernel_rfl) : WK C F x Q := by
  obtain ⟨y, hy, hg⟩ := tmX_some h
  rw [goX_N hy] at w
  exact goX_ok n hy (WK.put hv hg w)
/-- .. a bool that is known -/
theorem WK.b (n i : Nat) {b b' : Bool} (hv : b = b') (w : WK C F ((goN C F n x).put i (.bool b')) Q) (h : tmX C F n x i = some (.bool b) := by kernel_rfl) : WK C F x Q := WK.p n i (congrArg AV.bool hv) w h

/-! an operation whose answer is known otherwise -/
def opX (C : Cfg) (F : Fns) (n : Nat) (x : X) : Option OR := match goX C F n x with | some y => (match y.p with | .ops ops l => opIn C ops l y.s | _ => none) | none => none
/-- behind the operation -/
def nextX (x : X) (v : AV) (h : Heap) : X := match x.p with | .ops ops l => ⟨.ops ops (dropN l 1), x.k, putIn l x.s v h⟩ | _ => x
theorem WK.o (n : Nat) {y : OR} {v : AV} {h' : Heap} (hy : y = some (v, h')) (w : WK C F (nextX (goN C F n x) v h') Q) (h : opX C F n x = some y := by kernel_rfl) : WK C F x Q := by
  unfold opX at h
  split at h
  · rename_i z hz
    rw [goX_N hz] at w
    refine goX_ok n hz ?_
    obtain ⟨p, k, s⟩ := z
    cases p with
    | code c => cases h
    | ops ops l => exact WO.opk hy h w
  · cases h
theorem WK.q (n : Nat) {y : Heap → OR} {v : AV} (hy : ∀ h, y h = some (v, h)) (w : WK C F (nextX (goN C F n x) v (goN C F n x).s.h) Q) (h : opX C F n x = some (y (goN C F n x).s.h) := by kernel_rfl) : WK C F x Q := WK.o n (hy _) w h

/-! an element's address -/
structure IdxR where
  t : PT
  l : List (El t)
  n : Int
def idxX (C : Cfg) (F : Fns) (n : Nat) (x : X) : Option IdxR :=
  match goX C F n x with
  | none => none
  | some y => match y.p with
    | .code _ => none
    | .ops ops l => match l with
      | [] => none
      | o :: _ => match wantedA ops y.s.tm o with
        | some true => match o.op with
          | .indexAddr t a i => match C.P.underlying t with
            | some (.slice e) => match evalO C y.s.tm a with
              | .slT pt l _ => match evalO C y.s.tm i with
                | .int _ n => bif knownT C e && Nat.beq (sizeT C e) (width pt) then some ⟨pt, l, n⟩ else none
                | _ => none
              | _ => none
            | _ => none
          | _ => none
        | _ => none
theorem natOf_of {k : IntKind} {n : Int} (h : 0 ≤ n) : natOf (.int k n) = some n.toNat := by
  obtain ⟨m, rfl⟩ := Int.eq_ofNat_of_zero_le h
  rfl
theorem WK.i (n : Nat) (pt : PT) (l : List (El pt)) (k : Int) (hk : 0 ≤ k) (hl : k < ((l.length : Nat) : Int)) (w : WK C F (nextX (goN C F n x) (.ptrR (avT pt (elAt pt l k.toNat)) 0) (goN C F n x).s.h) Q) (h : idxX C F n x = some ⟨pt, l, k⟩ := by kernel_rfl) : WK C F x Q := by
  unfold idxX at h
  split at h
  · cases h
  · rename_i y hy
    rw [goX_N hy] at w
    refine goX_ok n hy ?_
    obtain ⟨p, ks, s⟩ := y
    cases p with
    | code c => cases h
    | ops ops ll =>
      simp only at h
      split at h
      · cases h
      · rename_i o rest
        split at h
        · rename_i hw
          split at h
          · rename_i t a i hop
            split at h
            · rename_i e hu
              split at h
              · rename_i pt' l' ex' ha
                split at h
                · rename_i ki m hi
                  cases hb : (knownT C e && Nat.beq (sizeT C e) (width pt')) with
                  | false => rw [hb] at h; cases h
                  | true =>
                    rw [hb] at h
                    simp only [cond_true, Option.some.injEq, IdxR.mk.injEq] at h
                    obtain ⟨rfl, h2, rfl⟩ := h
                    obtain rfl := eq_of_heq h2
                    refine WO.opk (y := keep s.h (opIndexAddr C t (evalO C s.tm a) (evalO C s.tm i))) ?_ ?_ w
                    · rw [ha, hi]
                      unfold opIndexAddr
                      rw [natOf_of hk, hu]
                      simp only
                      rw [show Nat.ble (Nat.succ m.toNat) l'.length = true from Nat.ble_eq_true_of_le (by omega), hb]
                      rfl
                    · unfold opIn; simp only [hw, hop]; rfl
                · cases h
              · cases h
            · cases h
          · cases h
        · cases h

/-! calls -/
def callX (C : Cfg) (F : Fns) (n : Nat) (x : X) : Option (FuncId × List AV) := match goX C F n x with | some y => (match y.p with | .ops ops l => callIn C ops l y.s | _ => none) | none => none
theorem WK.c (n : Nat) {g : FuncId} {args : List AV} {v : AV} (hc : ∀ h, F.call g args h none = some (.val v h none)) (w : WK C F (nextX (goN C F n x) v (goN C F n x).s.h) Q) (h : callX C F n x = some (g, args) := by kernel_rfl) : WK C F x Q := by
  unfold callX at h
  split at h
  · rename_i z hz
    rw [goX_N hz] at w
    refine goX_ok n hz ?_
    obtain ⟨p, k, s⟩ := z
    cases p with
    | code c => cases h
    | ops ops l => exact WO.callp h (hc _) w
  · cases h
theorem WK.ch (n : Nat) {g : FuncId} {args : List AV} {v : AV} {h1 h' : Heap} (hc : F.call g args h1 none = some (.val v h' none)) (w : WK C F (nextX (goN C F n x) v h') Q) (h : callX C F n x = some (g, args) := by kernel_rfl) (he : (goN C F n x).s.h = h1 := by kernel_rfl) : WK C F x Q := by
  unfold callX at h
  split at h
  · rename_i z hz
    rw [goX_N hz] at w he
    refine goX_ok n hz ?_
    obtain ⟨p, k, s⟩ := z
    cases p with
    | code c => cases h
    | ops ops l => exact WO.callh h he hc w
  · cases h

/-! the end -/
theorem unw_ret {s : St} : ∀ (k : List Fr), Q (.ret s) → unw C F k (.ret s) Q
  | [], q => q
  | .seq _ :: k, q => unw_ret k q
  | .blk _ :: k, q => unw_ret k q
  | .lp _ :: k, q => unw_ret k q
/-- the answer, where the function returns -/
def isRet (x : X) : Bool := match x.p with | .code .ret => true | .code .skip => (match x.k with | [] => true | _ => false) | _ => false
def retX (C : Cfg) (F : Fns) (fn : Func) (n : Nat) (x : X) : Option AV := match goX C F n x with | some y => bif isRet y && (y.s.ds.isEmpty && y.s.pn.isNone) then retV C fn y.s else none | none => none
theorem WK.r {fn : Func} {v : AV} (n : Nat) {v' : AV} (hv : v = v') (h : retX C F fn n x = some v' := by kernel_rfl) : WK C F x (RetQ C F fn v) := by
  unfold retX at h
  split at h
  · rename_i y hy
    refine goX_ok n hy ?_
    cases hb : (isRet y && (y.s.ds.isEmpty && y.s.pn.isNone)) with
    | false => rw [hb] at h; cases h
    | true =>
      rw [hb] at h
      simp only [cond_true] at h
      simp only [Bool.and_eq_true] at hb
      obtain ⟨h1, h2, h3⟩ := hb
      have hd : (y.s.ds, y.s.pn) = ([], none) := by
        rw [List.isEmpty_iff] at h2
        rw [Option.isNone_iff_eq_none] at h3
        rw [h2, h3]
      have q := RetQ.k (F := F) hv hd h
      obtain ⟨p, k, s⟩ := y
      unfold isRet at h1
      split at h1
      · rename_i hp; simp only at hp; subst hp; exact W.ret (unw_ret k q)
      · rename_i hp; simp only at hp; subst hp
        split at h1
        · rename_i hk; simp only at hk; subst hk; exact W.skip (RetQ.kn (F := F) hv hd h)
        · cases h1
      · cases h1
  · cases h

/-! loops -/
/-- what a round's end must come to -/
structure NX {α : Type} (len i : Nat) (P : α → Prop) (T : St → St) (H : α → St) (Rn : St → Prop) : Prop where
  go : ∀ s a, i < len → P a → T s = H a → Rn s
def loopX (x : X) : Bool := match x.p with | .code (.loop _) => true | _ => false
def bodyX (x : X) : Code := match x.p with | .code (.loop c) => c | _ => .skip
def trimX (x : X) (h : Heap) (s : St) : St := trimS h.next (lvLoop (bodyX x)) s
/-- the state that a loop begins with -/
def baseX (x : X) : St := trimX x x.s.h x.s
theorem WK.l {α : Type} (hT : C.trim = true) (len : Nat) (HD : Nat → α → St) (P : Nat → α → Prop) (a : α) (hl : len < C.loops) (hp : P 0 a)
    (hb : ∀ i a Rn, NX len i (P (i + 1)) (trimX x (HD i a).h) (HD (i + 1)) Rn → i ≤ len → P i a → WK C F ⟨.code (bodyX x), .lp Rn :: x.k, HD i a⟩ Q)
    (h : loopX x = true) (h0 : baseX x = HD 0 a) : WK C F x Q := by
  obtain ⟨p, k, s⟩ := x
  unfold loopX at h
  split at h
  · rename_i c hc
    simp only at hc
    subst hc
    show W C F (.loop c) s _
    refine W.loopT hT (fun m t => ∃ i a, i ≤ len ∧ m = len - i ∧ P i a ∧ t = HD i a) ?_ (m := len) hl ⟨0, a, Nat.zero_le _, rfl, hp, h0⟩
    rintro m t ⟨i, a, hi, rfl, hP, rfl⟩
    have w := hb i a (fun s' => i < len ∧ ∃ a', P (i + 1) a' ∧ trimS (HD i a).h.next (lvLoop c) s' = HD (i + 1) a') ⟨fun s' a' h1 h2 h3 => ⟨h1, a', h2, h3⟩⟩ hi hP
    have w : W C F c (HD i a) (fun o => unw C F (.lp _ :: k) o Q) := w
    refine w.mono fun o q => ?_
    cases o with
    | nrm s' =>
      obtain ⟨q1, a', q2, q3⟩ := q
      exact ⟨len - (i + 1), by omega, i + 1, a', q1, rfl, q2, q3⟩
    | ext i s' => exact q
    | gto i s' => exact q
    | ret s' => exact q
    | pan v s' => exact q
  · cases h
/-- the frame that a round ends by -/
def lpOf (x : X) : St → Prop := match x.k with | .lp R :: _ => R | _ => fun _ => False
def endX (x : X) : Bool := match x.p with | .code .skip => (match x.k with | .lp _ :: _ => true | _ => false) | _ => false
theorem WK.n {Rn : St → Prop} (hr : lpOf x = Rn) (h : endX x = true) (q : Rn x.s) : WK C F x Q := by
  obtain ⟨p, k, s⟩ := x
  unfold endX at h
  split at h
  · rename_i hpp
    simp only at hpp
    subst hpp
    split at h
    · rename_i R k' hk
      simp only at hk
      subst hk
      refine W.skip ?_
      show R s
      have hr : R = Rn := hr
      rw [hr]
      exact q
    · cases h
  · cases h

/-! a region whose order is open -/
def drX (C : Cfg) (F : Fns) (n : Nat) (x : X) : Bool := match goX C F n x with | some y => (match y.p with | .code (.region _ o true) => drawOk C o | _ => false) | none => false
def opsX (x : X) : Array Oper := match x.p with | .code (.region _ o _) => o | _ => #[]
def skX (x : X) (s : St) : X := ⟨.code .skip, x.k, s⟩
theorem WK.d (n : Nat) (w : WE C F (opsX (goN C F n x)) 0 (opsX (goN C F n x)).toList (dr0 (goN C F n x).s) [] (fun o => match o with | .nrm s => WK C F (skX (goN C F n x) s) Q | _ => False))
    (h : drX C F n x = true := by kernel_rfl) : WK C F x Q := by
  unfold drX at h
  split at h
  · rename_i y hy
    rw [goX_N hy] at w
    refine goX_ok n hy ?_
    obtain ⟨p, k, s⟩ := y
    split at h
    · rename_i id ops hp
      simp only at hp
      subst hp
      show W C F (.region id ops true) s _
      refine (W.drawn2 h w).mono fun o q => ?_
      cases o with
      | nrm s' =>
        obtain ⟨out, e, q⟩ := q
        cases e
        exact q
      | _ => exact q.elim
    · cases h
  · cases h
/-- a function over a heap of its own -/
theorem pureX {f : FuncId} {fn : Func} {c : Code} {args : List AV} {v : AV} (ho : C.own1 f = false) (hp : C.pure f = true) (hs : C.spec f args = none) (hn : noOwnL (noOwn deep) args = true) (hf : C.P.funcs[f]? = some fn) (hb : fn.body = some c) (hl : Nat.ble (lenN args) fn.ntmps = true)
    (w : WK C F ⟨.code c, [], { n := fn.ntmps, tm := tmOf 0 args (fullT 12 fn.ntmps), h := Heap.empty, ds := [], pn := none }⟩ (RetQ C F fn v)) (h : Heap) : (stepF C F).call f args h none = some (.val v h none) :=
  pureq ho hp hs hn hf hb hl w h
end
end
end Go.Abs
namespace Go.Abs
noncomputable section
open Go
/-! ## Guarded operations, all ways at once -/
/-- a temporary's guards: other temporaries, and the bools that they must be -/
abbrev Gd := List (Nat × Bool)
structure SG where
  /-- the state, as if all had been done -/
  o : St
  vs : List (Nat × Gd)
  sd : Prop
  /-- no guards, nothing asked -/
  cl : Bool
def vsOf (vs : List (Nat × Gd)) (t : Nat) : Gd := List.rec [] (fun e _ ih => bif Nat.beq e.1 t then e.2 else ih) vs
def opdV (vs : List (Nat × Gd)) (x : Operand) : Gd := match x with | .tmp t => vsOf vs t | _ => []
def hasG (e : Nat × Bool) (l : Gd) : Bool := List.rec false (fun a _ ih => (Nat.beq a.1 e.1 && a.2 == e.2) || ih) l
def subV (a b : Gd) : Bool := List.rec true (fun e _ ih => hasG e b && ih) a
def subAll (vs : List (Nat × Gd)) (l : List Operand) (b : Gd) : Bool := List.rec true (fun x _ ih => subV (opdV vs x) b && ih) l
def idIn (t : Nat) (l : Gd) : Bool := List.rec false (fun a _ ih => Nat.beq a.1 t || ih) l
/-- is a temporary not one that is guarded, or a guard? -/
def freeV (vs : List (Nat × Gd)) (t : Nat) : Bool := List.rec true (fun e _ ih => !(Nat.beq e.1 t) && (!(idIn t e.2) && ih)) vs
def freeD (vs : List (Nat × Gd)) (d : Option Nat) : Bool := match d with | some t => freeV vs t | none => true
def guardV (ops : Array Oper) (s : SG) (o : Oper) : Option Gd :=
  match o.guard with
  | none => some []
  | some (j, want) => match guardTmp ops j with
    | some t => match s.o.tm.get t with | some (.bool _) => some ((t, want) :: vsOf s.vs t) | _ => none
    | none => none
def impV (tm : T AV) (P : Prop) (l : Gd) : Prop := List.rec P (fun e _ ih => match tm.get e.1 with | some (.bool b) => b = e.2 → ih | _ => ih) l
def mergeA (b : Bool) (x y : AV) : Option AV :=
  match x, y with
  | .bool p, .bool q => some (.bool (bif b then p else q))
  | .int k p, .int k' q => bif decide (k = k') then some (.int k (bif b then p else q)) else none
  | .str p, .str q => some (.str (bif b then p else q))
  | _, _ => none
/-- an operation that leaves memory as it is -/
def opPure (C : Cfg) (tm : T AV) (h : Heap) (o : Op) : Option AV :=
  match o with
  | .move x => some (evalO C tm x)
  | .assign x => some (evalO C tm x)
  | .load t a => opLoad C h t (evalO C tm a)
  | .nilCheck x => opNilCheck (evalO C tm x)
  | .binOp op t x y _ => binA C t (isConstO x || isConstO y) op (evalO C tm x) (evalO C tm y)
  | .unOp op _ x => unA op (evalO C tm x)
  | .slice t x lo hi mx => opSlice C h t (evalO C tm x) (optO C tm lo) (optO C tm hi) (optO C tm mx)
  | .fieldAddr t x f => opFieldAddr C t (evalO C tm x) f
  | .field t x f => opField C t (evalO C tm x) f
  | .indexAddr t x i => opIndexAddr C t (evalO C tm x) (evalO C tm i)
  | .index t x i => opIndex C t (evalO C tm x) (evalO C tm i)
  | .extract x i => opExtract (evalO C tm x) i
  | .convert s d x => match C.P.underlying d with
    | some (.int k) => bif (C.P.underlying s).isSome then (match evalO C tm x with | .int _ n => some (.int k (wrapF k n)) | _ => none) else none
    | _ => none
  | .call c => match c.callee with
    | .builtin .len => match evalL C tm c.args.toList with | [x] => bif Nat.beq c.argTypes.size 0 then none else biLen C (c.argTypes.getD 0 0) x | _ => none
    | _ => none
  | _ => none
def opdsOf (o : Op) : List Operand := o.operands.toList
/-- an operation, but for panics and deferred calls -/
def opGen (C : Cfg) (F : Fns) (tm : T AV) (h : Heap) (o : Op) : OR :=
  match o with
  | .call c => match c.callee with
    | .builtin .recover => none
    | .builtin .panic => none
    | .builtin b => builtinA C h b c.argTypes (evalL C tm c.args.toList)
    | .value f => match calleeA (evalO C tm f) (evalL C tm c.args.toList) with
      | some (.inl g, args) => (match F.call g args h none with | some (.val v h' _) => some (v, h') | _ => none)
      | _ => none
    | _ => none
  | .defer _ => none
  | .panic _ => none
  | o => opA C tm h o
/-- an element's address, if it is within -/
def idxIn (C : Cfg) (tm : T AV) (o : Op) : Option IdxR :=
  match o with
  | .indexAddr t a i => match C.P.underlying t with
    | some (.slice e) => match evalO C tm a with
      | .slT pt l _ => match evalO C tm i with
        | .int _ n => bif knownT C e && Nat.beq (sizeT C e) (width pt) then some ⟨pt, l, n⟩ else none
        | _ => none
      | _ => none
    | _ => none
  | _ => none
/-- an index is within -/
def Ix {α : Type} (n : Int) (l : List α) : Prop := 0 ≤ n ∧ n < ((l.length : Nat) : Int)
structure ByR where
  s : List UInt8
  n : Int
/-- a string's byte, if it is within -/
def byteIn (C : Cfg) (tm : T AV) (o : Op) : Option ByR :=
  match o with
  | .index t a i => match C.P.underlying t with
    | some .string => match evalO C tm a with
      | .str s => match evalO C tm i with | .int _ n => some ⟨s, n⟩ | _ => none
      | _ => none
    | _ => none
  | _ => none
/-- what is known of a call; own rows that are only read are taken as they stand -/
def rsAt (C : Cfg) (h : Heap) (g : FuncId) (args : List AV) : Option (AV × Option Prop) :=
  match C.rs g args with
  | some r => some r
  | none => bif C.frz g && !(noOwnL (noOwn deep) args) then (match freezeL (freezeA h deep) args with
    | some args' => (match C.rs g args' with | some r => bif scalA r.1 && !(C.own1 g) then some r else none | none => none)
    | none => none) else none
/-- a call of which the answer is known -/
def rsIn (C : Cfg) (h : Heap) (tm : T AV) (op : Op) : Option (AV × Option Prop) :=
  match op with
  | .call c => match c.callee with
    | .value f => match calleeA (evalO C tm f) (evalL C tm c.args.toList) with | some (.inl g, args) => rsAt C h g args | _ => none
    | _ => none
  | _ => none
def holdsO (o : Option Prop) : Prop := match o with | none => True | some P => P
structure CutR where
  v : AV
  P : Prop
def intIn (C : Cfg) (tm : T AV) (x : Operand) : Option Int := match evalO C tm x with | .int _ n => some n | _ => none
/-- a part of a list, if it is within -/
def cutL {α : Type} (C : Cfg) (tm : T AV) (l : List α) (lo hi : Option Operand) (mk : List α → Bool → AV) : Option CutR :=
  match lo with
  | none => match hi with
    | none => some ⟨mk l true, True⟩
    | some y => match intIn C tm y with | some b => some ⟨mk (l.take b.toNat) false, 0 ≤ b ∧ b ≤ ((l.length : Nat) : Int)⟩ | none => none
  | some x => match intIn C tm x with
    | none => none
    | some a => match hi with
      | none => some ⟨mk (l.drop a.toNat) true, 0 ≤ a ∧ a ≤ ((l.length : Nat) : Int)⟩
      | some y => match intIn C tm y with | some b => some ⟨mk ((l.take b.toNat).drop a.toNat) false, 0 ≤ a ∧ a ≤ b ∧ b ≤ ((l.length : Nat) : Int)⟩ | none => none
def cutIn (C : Cfg) (tm : T AV) (o : Op) : Option CutR :=
  match o with
  | .slice t x lo hi none => match C.P.underlying t with
    | some .string => match evalO C tm x with
      | .str s => cutL C tm s lo hi (fun l _ => .str l)
      | _ => none
    | some (.slice e) => match evalO C tm x with
      | .slT pt l ex => bif knownT C e && Nat.beq (sizeT C e) (width pt) then cutL C tm l lo hi (fun l b => .slT pt l (b && ex)) else none
      | _ => none
    | _ => none
  | _ => none
/-- an element of an own row, by a number that is not told; a call over a block of the caller's -/
def ownIx (C : Cfg) (tm : T AV) (o : Op) : Bool := match o with
  | .indexAddr _ a (.tmp _) => (match evalO C tm a with | .slO .. => true | _ => false)
  | .call c => (match c.callee with | .value (.func g) => C.own1 g | .builtin .append => true | _ => false)
  | _ => false
def byteAt (s : List UInt8) (n : Int) : UInt8 := s.getD n.toNat 0
def emptyV (V : Gd) : Bool := match V with | [] => true | _ => false
def putG (s : SG) (d : Option Nat) (V : Gd) (v : AV) (P : Option Prop) : SG :=
  { o := s.o.set d v s.o.h, vs := match d with | some t => (match V with | [] => s.vs | V => (t, V) :: s.vs) | none => s.vs, sd := match P with | some P => s.sd ∧ P | none => s.sd, cl := s.cl && (emptyV V && P.isNone) }
def inSt (s : St) (d : Option Nat) : Bool := match d with | some t => Nat.ble (Nat.succ t) s.n | none => false
def pickOk (vs : List (Nat × Gd)) (c a b : Operand) (V : Gd) : Bool :=
  match c with
  | .tmp t => subV (opdV vs a) ((t, true) :: V) && subV (opdV vs b) ((t, false) :: V)
  | _ => subV (opdV vs a) V && subV (opdV vs b) V
def dstIn (d : Option Nat) (V : Gd) : Bool := match d with | some t => idIn t V | none => false
def badV (s : SG) (d : Option Nat) (V : Gd) : Bool := !(freeD s.vs d) || !(inSt s.o d || emptyV V) || dstIn d V
def segOp (C : Cfg) (F : Fns) (ops : Array Oper) (o : Oper) (s : SG) : Option SG :=
  match guardV ops s o with
  | none => none
  | some V =>
    bif badV s o.dst V then none else
    match o.op with
    | .pick c a b =>
      bif subV (opdV s.vs c) V && pickOk s.vs c a b V then
        (match evalO C s.o.tm c with
        | .bool x => match mergeA x (evalO C s.o.tm a) (evalO C s.o.tm b) with | some v => some (putG s o.dst V v none) | none => none
        | _ => none) else none
    | op => bif (cls C op == .x) || (!(subAll s.vs (opdsOf op) V) || ownIx C s.o.tm op) then none else
      match rsIn C s.o.h s.o.tm op with
      | some (v, none) => some (putG s o.dst V v none)
      | some (v, some P) => some (putG s o.dst V v (some (impV s.o.tm P V)))
      | none => match idxIn C s.o.tm op with
      | some r => some (putG s o.dst V (.ptrR (avT r.t (elAt r.t r.l r.n.toNat)) 0) (some (impV s.o.tm (Ix r.n r.l) V)))
      | none => match byteIn C s.o.tm op with
        | some r => some (putG s o.dst V (.int .u8 ((byteAt r.s r.n).toNat : Nat)) (some (impV s.o.tm (Ix r.n r.s) V)))
        | none => match cutIn C s.o.tm op with
        | some r => some (putG s o.dst V r.v (some (impV s.o.tm r.P V)))
        | none => match opPure C s.o.tm s.o.h op with
          | some v => some (putG s o.dst V v none)
          | none => match V with
            | [] => match opGen C F s.o.tm s.o.h op with | some (v, h') => some { o := s.o.set o.dst v h', vs := s.vs, sd := s.sd, cl := s.cl } | none => none
            | _ => none
def segN (C : Cfg) (F : Fns) (ops : Array Oper) (l : List Oper) : SG → Option SG :=
  List.rec (fun s => some s) (fun o _ ih s => match segOp C F ops o s with | some s => ih s | none => none) l

/-! ### trees of the same shape -/
def T.like {α : Type} : T α → T α → Prop
  | .leaf, .leaf => True
  | .node a _ b, .node c _ d => a.like c ∧ b.like d
  | _, _ => False
theorem T.like_refl {α : Type} : ∀ t : T α, t.like t
  | .leaf => trivial
  | .node a _ b => ⟨T.like_refl a, T.like_refl b⟩
theorem T.one_like {α : Type} : ∀ (f i : Nat) (x y : α), (T.one f i x).like (T.one f i y)
  | 0, _, _, _ => trivial
  | f + 1, i, x, y => by
    show (bif Nat.beq i 0 then T.node .leaf (some x) .leaf else bif Nat.beq (Nat.mod i 2) 1 then T.node (T.one f (Nat.div i 2) x) none .leaf else T.node .leaf none (T.one f (Nat.sub (Nat.div i 2) 1) x) : T α).like
      (bif Nat.beq i 0 then T.node .leaf (some y) .leaf else bif Nat.beq (Nat.mod i 2) 1 then T.node (T.one f (Nat.div i 2) y) none .leaf else T.node .leaf none (T.one f (Nat.sub (Nat.div i 2) 1) y) : T α)
    cases Nat.beq i 0 with
    | true => exact ⟨trivial, trivial⟩
    | false =>
      cases Nat.beq (Nat.mod i 2) 1 with
      | true => exact ⟨T.one_like f _ x y, trivial⟩
      | false => exact ⟨trivial, T.one_like f _ x y⟩
theorem T.put_like {α : Type} : ∀ (t u : T α) (i : Nat) (x y : α), t.like u → (t.put i x).like (u.put i y)
  | .leaf, .leaf, i, x, y, _ => T.one_like (Nat.succ i) i x y
  | .node a v b, .node c w d, i, x, y, h => by
    show (bif Nat.beq i 0 then T.node a (some x) b else bif Nat.beq (Nat.mod i 2) 1 then T.node (a.put (Nat.div i 2) x) v b else T.node a v (b.put (Nat.sub (Nat.div i 2) 1) x) : T α).like
      (bif Nat.beq i 0 then T.node c (some y) d else bif Nat.beq (Nat.mod i 2) 1 then T.node (c.put (Nat.div i 2) y) w d else T.node c w (d.put (Nat.sub (Nat.div i 2) 1) y) : T α)
    cases Nat.beq i 0 with
    | true => exact h
    | false =>
      cases Nat.beq (Nat.mod i 2) 1 with
      | true => exact ⟨T.put_like a c _ x y h.1, h.2⟩
      | false => exact ⟨h.1, T.put_like b d _ x y h.2⟩
  | .leaf, .node .., _, _, _, h => h.elim
  | .node .., .leaf, _, _, _, h => h.elim
theorem T.ext {α : Type} : ∀ (t u : T α), t.like u → (∀ i, t.get i = u.get i) → t = u
  | .leaf, .leaf, _, _ => rfl
  | .node a v b, .node c w d, h, e => by
    have h0 := e 0
    rw [T.get_node, T.get_node] at h0
    simp only [if_pos] at h0
    have ha : a = c := T.ext a c h.1 fun i => by
      have := e (2 * i + 1)
      rw [T.get_node, T.get_node] at this
      simp only [show ¬(2 * i + 1 = 0) by omega, show (2 * i + 1) % 2 = 1 by omega, show (2 * i + 1) / 2 = i by omega, if_true, if_false] at this
      exact this
    have hb : b = d := T.ext b d h.2 fun i => by
      have := e (2 * i + 2)
      rw [T.get_node, T.get_node] at this
      simp only [show ¬(2 * i + 2 = 0) by omega, show ¬((2 * i + 2) % 2 = 1) by omega, show (2 * i + 2) / 2 - 1 = i by omega, if_false] at this
      exact this
    rw [ha, hb, h0]
  | .leaf, .node .., h, _ => h.elim
  | .node .., .leaf, h, _ => h.elim

/-! ### it is so -/
section
variable {C : Cfg} {F : Fns}
def sat (s : St) (V : Gd) : Prop := ∀ e ∈ V, s.tm.get e.1 = some (.bool e.2)
theorem vsOf_cases : ∀ (vs : List (Nat × Gd)) (t : Nat), (vsOf vs t = [] ∧ ∀ e ∈ vs, e.1 ≠ t) ∨ ∃ e ∈ vs, e.1 = t ∧ vsOf vs t = e.2
  | [], t => .inl ⟨rfl, fun e h => by cases h⟩
  | a :: vs, t => by
    have hd : vsOf (a :: vs) t = (bif Nat.beq a.1 t then a.2 else vsOf vs t) := rfl
    cases hb : Nat.beq a.1 t with
    | true => exact .inr ⟨a, List.mem_cons_self .., Nat.eq_of_beq_eq_true hb, by rw [hd, hb]; rfl⟩
    | false =>
      rw [hb] at hd
      rcases vsOf_cases vs t with ⟨h1, h2⟩ | ⟨e, h1, h2, h3⟩
      · exact .inl ⟨hd.trans h1, fun e he => by
          rcases List.mem_cons.1 he with rfl | he
          · exact Nat.ne_of_beq_eq_false hb
          · exact h2 e he⟩
      · exact .inr ⟨e, List.mem_cons_of_mem _ h1, h2, hd.trans h3⟩
theorem hasG_mem {e : Nat × Bool} : ∀ {l : Gd}, hasG e l = true → e ∈ l
  | [], h => by cases h
  | a :: l, h => by
    have h : ((Nat.beq a.1 e.1 && a.2 == e.2) || hasG e l) = true := h
    rw [Bool.or_eq_true, Bool.and_eq_true] at h
    rcases h with ⟨h1, h2⟩ | h
    · have : a = e := by cases a; cases e; simp only at h1 h2; rw [Nat.eq_of_beq_eq_true h1, eq_of_beq h2]
      rw [this]; exact List.mem_cons_self ..
    · exact List.mem_cons_of_mem _ (hasG_mem h)
theorem subV_sat {s : St} {b : Gd} (hs : sat s b) : ∀ {a : Gd}, subV a b = true → sat s a
  | [], _ => fun e h => by cases h
  | x :: a, h => by
    have h : (hasG x b && subV a b) = true := h
    rw [Bool.and_eq_true] at h
    intro e he
    rcases List.mem_cons.1 he with rfl | he
    · exact hs _ (hasG_mem h.1)
    · exact subV_sat hs h.2 e he
theorem idIn_ne {t : Nat} : ∀ {l : Gd}, idIn t l = false → ∀ e ∈ l, e.1 ≠ t
  | [], _ => fun e h => by cases h
  | a :: l, h => by
    have h : (Nat.beq a.1 t || idIn t l) = false := h
    rw [Bool.or_eq_false_iff] at h
    intro e he
    rcases List.mem_cons.1 he with rfl | he
    · exact Nat.ne_of_beq_eq_false h.1
    · exact idIn_ne h.2 e he
theorem freeV_ne {t : Nat} : ∀ {vs : List (Nat × Gd)}, freeV vs t = true → ∀ e ∈ vs, e.1 ≠ t ∧ ∀ g ∈ e.2, g.1 ≠ t
  | [], _ => fun e h => by cases h
  | a :: vs, h => by
    have h : (!(Nat.beq a.1 t) && (!(idIn t a.2) && freeV vs t)) = true := h
    simp only [Bool.and_eq_true, Bool.not_eq_true'] at h
    intro e he
    rcases List.mem_cons.1 he with rfl | he
    · exact ⟨Nat.ne_of_beq_eq_false h.1, idIn_ne h.2.1⟩
    · exact freeV_ne h.2.2 e he
/-- the state, told by what is as if all had been done -/
structure SGok (s : St) (g : SG) : Prop where
  n : s.n = g.o.n
  h : s.h = g.o.h
  ds : s.ds = g.o.ds
  pn : s.pn = g.o.pn
  like : s.tm.like g.o.tm
  free : ∀ t, (∀ e ∈ g.vs, e.1 ≠ t) → s.tm.get t = g.o.tm.get t
  yes : ∀ e ∈ g.vs, sat s e.2 → s.tm.get e.1 = g.o.tm.get e.1
  no : ∀ e ∈ g.vs, ¬ sat s e.2 → s.tm.get e.1 = some (.tup [])
  som : ∀ e ∈ g.vs, ∃ v, s.tm.get e.1 = some v
section
variable {s : St} {g : SG}
theorem SGok.tm (K : SGok s g) {t : Nat} (hs : sat s (vsOf g.vs t)) : s.tm.get t = g.o.tm.get t := by
  rcases vsOf_cases g.vs t with ⟨_, h⟩ | ⟨e, h1, rfl, h3⟩
  · exact K.free t h
  · rw [h3] at hs; exact K.yes e h1 hs
theorem SGok.not (K : SGok s g) {t : Nat} (hs : ¬ sat s (vsOf g.vs t)) : s.tm.get t = some (.tup []) := by
  rcases vsOf_cases g.vs t with ⟨h, _⟩ | ⟨e, h1, rfl, h3⟩
  · rw [h] at hs; exact absurd (fun e he => by cases he) hs
  · rw [h3] at hs; exact K.no e h1 hs
theorem SGok.opd (K : SGok s g) {V : Gd} (hs : sat s V) {x : Operand} (hx : subV (opdV g.vs x) V = true) : evalO C s.tm x = evalO C g.o.tm x := by
  cases x with
  | tmp t =>
    have := K.tm (t := t) (subV_sat hs hx)
    unfold evalO
    simp only [this]
  | _ => rfl
theorem SGok.opds (K : SGok s g) {V : Gd} (hs : sat s V) : ∀ {l : List Operand}, subAll g.vs l V = true → ∀ x ∈ l, evalO C s.tm x = evalO C g.o.tm x
  | [], _, x, h => by cases h
  | a :: l, h, x, hx => by
    have h : (subV (opdV g.vs a) V && subAll g.vs l V) = true := h
    rw [Bool.and_eq_true] at h
    rcases List.mem_cons.1 hx with rfl | hx
    · exact K.opd hs h.1
    · exact K.opds hs h.2 x hx
/-- a guard that is met is the bool it was taken for -/
theorem SGok.imp (K : SGok s g) {P : Prop} : ∀ {V : Gd}, sat s V → impV g.o.tm P V → P
  | [], _, h => h
  | e :: V, hs, h => by
    have h : (match g.o.tm.get e.1 with | some (.bool b) => b = e.2 → impV g.o.tm P V | _ => impV g.o.tm P V) := h
    have h1 := hs e (List.mem_cons_self ..)
    have hV : sat s V := fun x hx => hs x (List.mem_cons_of_mem _ hx)
    have h2 : sat s (vsOf g.vs e.1) := by
      apply Classical.byContradiction
      intro hn
      rw [K.not hn] at h1; cases h1
    rw [K.tm h2] at h1
    rw [h1] at h
    exact K.imp hV (h rfl)
theorem set_get {s : St} {d : Option Nat} {v : AV} {h : Heap} (j : Nat) (hne : d ≠ some j) : (s.set d v h).tm.get j = s.tm.get j := by
  unfold St.set
  cases d with
  | none => rfl
  | some k =>
    simp only
    cases Nat.ble (Nat.succ k) s.n with
    | false => rfl
    | true => simp only [cond_true, T.get_put]; rw [if_neg (fun e => hne (by rw [e]))]
theorem set_same {s : St} {k : Nat} {v : AV} {h : Heap} (hk : Nat.ble (Nat.succ k) s.n = true) : (s.set (some k) v h).tm.get k = some v := by
  unfold St.set
  simp only [hk, cond_true, T.get_put, if_pos]
theorem set_like {s u : St} {d : Option Nat} {v v' : AV} {h h' : Heap} (hn : s.n = u.n) (hl : s.tm.like u.tm) : (s.set d v h).tm.like (u.set d v' h').tm := by
  unfold St.set
  cases d with
  | none => exact hl
  | some k =>
    simp only [hn]
    cases Nat.ble (Nat.succ k) u.n with
    | false => exact hl
    | true => exact T.put_like _ _ _ _ _ hl
theorem set_rest {s : St} {d : Option Nat} {v : AV} {h : Heap} : (s.set d v h).n = s.n ∧ (s.set d v h).h = h ∧ (s.set d v h).ds = s.ds ∧ (s.set d v h).pn = s.pn := by
  unfold St.set
  cases d with
  | none => exact ⟨rfl, rfl, rfl, rfl⟩
  | some k => simp only; cases Nat.ble (Nat.succ k) s.n <;> exact ⟨rfl, rfl, rfl, rfl⟩
theorem sat_set {s : St} {d : Option Nat} {v : AV} {h : Heap} {V : Gd} (hV : ∀ e ∈ V, d ≠ some e.1) : sat (s.set d v h) V ↔ sat s V := by
  unfold sat
  exact ⟨fun q e he => by rw [← q e he]; exact (set_get _ (hV e he)).symm, fun q e he => by rw [← q e he]; exact set_get _ (hV e he)⟩
/-- an operation that was done, at no guard -/
theorem SGok.set0 (K : SGok s g) {d : Option Nat} {v : AV} {h : Heap} {P : Prop} {cl : Bool} (hf : freeD g.vs d = true) : SGok (s.set d v h) { o := g.o.set d v h, vs := g.vs, sd := P, cl := cl } := by
  have hne : ∀ e ∈ g.vs, d ≠ some e.1 ∧ ∀ x ∈ e.2, d ≠ some x.1 := by
    intro e he
    cases d with
    | none => exact ⟨(by simp), fun _ _ => (by simp)⟩
    | some t =>
      have := freeV_ne (show freeV g.vs t = true from hf) e he
      exact ⟨fun q => by cases q; exact this.1 rfl, fun x hx q => by cases q; exact this.2 x hx rfl⟩
  have r1 := set_rest (s := s) (d := d) (v := v) (h := h)
  have r2 := set_rest (s := g.o) (d := d) (v := v) (h := h)
  refine ⟨by rw [r1.1, r2.1]; exact K.n, by rw [r1.2.1, r2.2.1], by rw [r1.2.2.1, r2.2.2.1]; exact K.ds, by rw [r1.2.2.2, r2.2.2.2]; exact K.pn, set_like K.n K.like, fun t ht => ?_, fun e he hs => ?_, fun e he hs => ?_, fun e he => ?_⟩
  · by_cases hd : d = some t
    · subst hd
      cases hk : Nat.ble (Nat.succ t) s.n with
      | true => rw [set_same hk, set_same (by rw [← K.n]; exact hk)]
      | false =>
        unfold St.set
        simp only [← K.n, hk, cond_false]
        exact K.free t ht
    · rw [set_get t hd, set_get t hd]; exact K.free t ht
  · rw [sat_set (hne e he).2] at hs
    rw [set_get _ (hne e he).1, set_get _ (hne e he).1]
    exact K.yes e he hs
  · rw [sat_set (hne e he).2] at hs
    rw [set_get _ (hne e he).1]
    exact K.no e he hs
  · rw [set_get _ (hne e he).1]; exact K.som e he
/-- .. at guards: done if they are met, otherwise passed over -/
theorem SGok.setV (K : SGok s g) {t : Nat} {V : Gd} {v : AV} {P : Prop} {cl : Bool} (hf : freeV g.vs t = true) (hn : Nat.ble (Nat.succ t) s.n = true) (hV : ∀ e ∈ V, e.1 ≠ t) {u : AV} (hu1 : sat s V → u = v) (hu0 : ¬ sat s V → u = .tup []) :
    SGok (s.set (some t) u s.h) { o := g.o.set (some t) v g.o.h, vs := (t, V) :: g.vs, sd := P, cl := cl } := by
  have hne : ∀ e ∈ g.vs, e.1 ≠ t ∧ ∀ x ∈ e.2, x.1 ≠ t := freeV_ne hf
  have r1 := set_rest (s := s) (d := some t) (v := u) (h := s.h)
  have r2 := set_rest (s := g.o) (d := some t) (v := v) (h := g.o.h)
  refine ⟨by rw [r1.1, r2.1]; exact K.n, by rw [r1.2.1, r2.2.1]; exact K.h, by rw [r1.2.2.1, r2.2.2.1]; exact K.ds, by rw [r1.2.2.2, r2.2.2.2]; exact K.pn, set_like K.n K.like, fun j hj => ?_, fun e he hs => ?_, fun e he hs => ?_, fun e he => ?_⟩
  · have h1 : some t ≠ some j := fun q => hj (t, V) (List.mem_cons_self ..) (by cases q; rfl)
    rw [set_get j h1, set_get j h1]
    exact K.free j fun e he => hj e (List.mem_cons_of_mem _ he)
  · rcases List.mem_cons.1 he with rfl | he
    · rw [sat_set (fun x hx q => hV x hx (by cases q; rfl))] at hs
      simp only
      rw [set_same hn, set_same (by rw [← K.n]; exact hn), hu1 hs]
    · rw [sat_set (fun x hx q => (hne e he).2 x hx (by cases q; rfl))] at hs
      have h1 : some t ≠ some e.1 := fun q => (hne e he).1 (by cases q; rfl)
      rw [set_get _ h1, set_get _ h1]
      exact K.yes e he hs
  · rcases List.mem_cons.1 he with rfl | he
    · rw [sat_set (fun x hx q => hV x hx (by cases q; rfl))] at hs
      simp only
      rw [set_same hn, hu0 hs]
    · rw [sat_set (fun x hx q => (hne e he).2 x hx (by cases q; rfl))] at hs
      have h1 : some t ≠ some e.1 := fun q => (hne e he).1 (by cases q; rfl)
      rw [set_get _ h1]
      exact K.no e he hs
  · rcases List.mem_cons.1 he with rfl | he
    · exact ⟨_, set_same hn⟩
    · rw [set_get _ fun q => (hne e he).1 (by cases q; rfl)]; exact K.som e he
end
end
end
end Go.Abs
namespace Go.Abs
noncomputable section
open Go
section
variable {C : Cfg} {F : Fns}
/-! ### operations hang on their operands alone -/
theorem opGen_A {tm : T AV} {h : Heap} {o : Op} (h1 : ∀ c, o ≠ .call c) (hx : cls C o ≠ .x) : opGen C F tm h o = opA C tm h o := by
  cases o <;> first | rfl | (exact absurd rfl (h1 _)) | (exact absurd rfl hx)
theorem opGen_congr {tm tm' : T AV} {h : Heap} {o : Op} (hx : cls C o ≠ .x) (e : Agree C tm tm' (opdsOf o)) : opGen C F tm h o = opGen C F tm' h o := by
  by_cases hc : ∃ c, o = .call c
  · obtain ⟨c, rfl⟩ := hc
    obtain ⟨cal, args, ts⟩ := c
    cases cal with
    | builtin b =>
      have e : Agree C tm tm' args.toList := fun x hx => e x (by simpa [opdsOf, Op.operands, Call.operands] using hx)
      unfold opGen
      simp only
      rw [evalL_congr e]
      cases b <;> rfl
    | value f =>
      have e1 : evalO C tm f = evalO C tm' f := e f (by simp [opdsOf, Op.operands, Call.operands])
      have e2 : Agree C tm tm' args.toList := fun x hx => e x (by simp [opdsOf, Op.operands, Call.operands]; exact .inr (by simpa using hx))
      unfold opGen
      simp only
      rw [e1, evalL_congr e2]
    | invoke a b => rfl
  · have h1 : ∀ c, o ≠ .call c := fun c h => hc ⟨c, h⟩
    rw [opGen_A h1 hx, opGen_A h1 hx]
    exact opA_congr h hx e
theorem opGen_ok {o : Oper} {s : St} {v : AV} {h' : Heap} (e : opGen C F s.tm s.h o.op = some (v, h')) : operA C F o s = some (.nrm (s.set o.dst v h')) := by
  unfold operA
  generalize o.op = op at e ⊢
  unfold opGen at e
  split at e
  · rename_i c
    simp only
    unfold callOp
    split at e
    · cases e
    · cases e
    · rename_i b h1 h2 hb
      rw [hb]
      cases b <;> first | (exact absurd rfl h1) | (exact absurd rfl h2) | (simp only [e, putO])
    · rename_i f hf
      rw [hf]
      simp only
      split at e
      · rename_i g args hg
        rw [hg]
        simp only
        split at e
        · rename_i w hw pn hc
          cases e
          rw [hc]; rfl
        · cases e
      · cases e
    · cases e
  · cases e
  · cases e
  · rename_i h1 h2 h3
    split
    · exact absurd rfl (h1 _)
    · exact absurd rfl (h2 _)
    · exact absurd rfl (h3 _)
    · rw [e]; rfl
/-- what is known of calls is so -/
def SpF (C : Cfg) (F : Fns) : Prop := ∀ g args v o h, rsAt C h g args = some (v, o) → holdsO o → F.call g args h none = some (.val v h none)
/-- what is asked decides -/
def specOf (rs : FuncId → List AV → Option (AV × Option Prop)) (g : FuncId) (args : List AV) : Option AV :=
  match rs g args with
  | some (v, none) => some v
  | some (v, some P) => @ite _ P (Classical.propDecidable P) (some v) none
  | none => none
theorem specOf_some {rs : FuncId → List AV → Option (AV × Option Prop)} {g : FuncId} {args : List AV} {v : AV} (h : specOf rs g args = some v) : ∃ o, rs g args = some (v, o) ∧ holdsO o := by
  unfold specOf at h
  split at h
  · rename_i w e; cases h; exact ⟨none, e, trivial⟩
  · rename_i w P e
    by_cases hp : P
    · rw [if_pos hp] at h; cases h; exact ⟨some P, e, hp⟩
    · rw [if_neg hp] at h; cases h
  · cases h
abbrev RsC (C : Cfg) : Prop := Nonempty (PLift (C.spec = specOf C.rs))
theorem RsC.eq {C : Cfg} (h : RsC C) : C.spec = specOf C.rs := h.elim PLift.down
theorem rs_spec (C : Cfg) [hR : RsC C] {g : FuncId} {args : List AV} {v : AV} {o : Option Prop} (e : C.rs g args = some (v, o)) (ho : holdsO o) : C.spec g args = some v := by
  rw [RsC.eq hR]
  unfold specOf
  rw [e]
  cases o with
  | none => rfl
  | some P => exact if_pos ho
theorem rs_none (C : Cfg) [hR : RsC C] {g : FuncId} {args : List AV} (e : C.rs g args = none) : C.spec g args = none := by
  rw [RsC.eq hR]
  unfold specOf
  rw [e]
theorem spF_step (C : Cfg) [hR : RsC C] (F : Fns) : SpF C (stepF C F) := by
  intro g args v o h e ho
  show callA C F g args h none = _
  unfold rsAt at e
  unfold callA
  split at e
  · rename_i r hr
    cases e
    simp only [rs_spec C hr ho]
  · rename_i hn
    simp only [rs_none C hn]
    cases hf : (C.frz g && !(noOwnL (noOwn deep) args)) with
    | false => rw [hf] at e; cases e
    | true =>
      rw [hf] at e
      simp only [cond_true] at e
      split at e
      · rename_i args' hz
        split at e
        · rename_i r hr
          cases hs : (scalA r.1 && !(C.own1 g)) with
          | false => rw [hs] at e; cases e
          | true =>
            rw [hs] at e
            cases e
            simp only [Bool.and_eq_true, Bool.not_eq_true'] at hs hf
            unfold callA0
            rw [hs.2]
            simp only [Bool.false_and, cond_false, hf.1, hf.2, Option.isNone_none, Bool.not_false, Bool.and_true, Bool.true_and, cond_true]
            unfold frzRes
            rw [hz]
            simp only [rs_spec C hr ho, hs.1, cond_true]
        · cases e
      · cases e
theorem opPure_gen {tm : T AV} {h : Heap} {o : Op} {v : AV} (hx : cls C o ≠ .x) (e : opPure C tm h o = some v) : opGen C F tm h o = some (v, h) := by
  by_cases hc : ∃ c, o = .call c
  · obtain ⟨c, rfl⟩ := hc
    obtain ⟨cal, args, ts⟩ := c
    unfold opPure at e
    unfold opGen
    simp only at e ⊢
    split at e
    · simp only
      split at e
      · rename_i x hx
        rw [hx]
        unfold builtinA
        cases hz : Nat.beq ts.size 0 with
        | true => rw [hz] at e; cases e
        | false => rw [hz] at e; simp only [cond_false] at e ⊢; rw [e]; rfl
      · cases e
    · cases e
  · have h1 : ∀ c, o ≠ .call c := fun c h => hc ⟨c, h⟩
    rw [opGen_A h1 hx]
    by_cases hcv : ∃ s d x, o = .convert s d x
    · obtain ⟨s, d, x, rfl⟩ := hcv
      unfold opPure at e
      simp only at e
      show opConvert C h s d (evalO C tm x) = _
      unfold opConvert
      split at e
      · rename_i k hk
        cases hs : (C.P.underlying s).isSome with
        | false => rw [hs] at e; cases e
        | true =>
          rw [hs] at e
          simp only [cond_true] at e
          split at e
          · rename_i k' n hn
            cases e
            rw [hk, hn]
            rfl
          · cases e
      · cases e
    have h2 : ∀ s d x, o ≠ .convert s d x := fun s d x h => hcv ⟨s, d, x, h⟩
    cases o <;> first
      | (exact absurd rfl (h2 _ _ _))
      | (exact absurd rfl (h1 _))
      | (cases e; done)
      | (unfold opPure at e; unfold opA; simp only at e ⊢; first | (rw [e]; rfl) | (cases e; rfl))
/-! ### one operation -/
section
variable {s : St} {g g' : SG} {ops : Array Oper} {o : Oper}
/-- what is done at guards -/
theorem wanted_of (K : SGok s g) {V : Gd} (hg : guardV ops g o = some V) : (sat s V → wantedA ops s.tm o = some true) ∧ (¬ sat s V → wantedA ops s.tm o = some false) := by
  unfold guardV at hg
  unfold wantedA
  split at hg
  · rename_i hn
    cases hg
    exact ⟨fun _ => by rw [hn], fun h => absurd (fun e he => by cases he) h⟩
  · rename_i j want hj
    rw [hj]
    simp only
    split at hg
    · rename_i t ht
      rw [ht]
      simp only
      split at hg
      · rename_i b hb
        cases hg
        by_cases hs : sat s (vsOf g.vs t)
        · have h1 := K.tm hs
          rw [hb] at h1
          rw [h1]
          simp only
          constructor
          · intro h
            have := h (t, want) (List.mem_cons_self ..)
            rw [h1] at this
            simp only [Option.some.injEq, AV.bool.injEq] at this
            rw [this]; simp
          · intro h
            cases hw : (b == want) with
            | false => rfl
            | true =>
              refine absurd ?_ h
              intro e he
              rcases List.mem_cons.1 he with rfl | he
              · rw [h1, eq_of_beq hw]
              · exact hs e he
        · have h1 := K.not hs
          rw [h1]
          simp only
          exact ⟨fun h => absurd (fun e he => h e (List.mem_cons_of_mem _ he)) hs, fun _ => by first | rfl | trivial⟩
      · cases hg
    · cases hg
theorem merge_of {b : Bool} {x y v : AV} (e : mergeA b x y = some v) : v = (bif b then x else y) := by
  unfold mergeA at e
  split at e
  · cases e; cases b <;> rfl
  · rename_i k p k' q
    cases hk : decide (k = k') with
    | false => rw [hk] at e; cases e
    | true =>
      rw [hk] at e; cases e
      have := of_decide_eq_true hk
      subst this
      cases b <;> rfl
  · cases e; cases b <;> rfl
  · cases e
/-- the answer of an operation that is done -/
theorem done_of (K : SGok s g) {V : Gd} {v : AV} {P : Option Prop} (hg : guardV ops g o = some V) (hc : badV g o.dst V = false)
    (hv : sat s V → opGen C F s.tm s.h o.op = some (v, s.h)) : ∃ s', SGok s' (putG g o.dst V v P) ∧ ∀ rest Q, WO C F ops rest s' Q → WO C F ops (o :: rest) s Q := by
  unfold badV at hc
  simp only [Bool.or_eq_false_iff, Bool.not_eq_false'] at hc
  obtain ⟨⟨h1, h2⟩, h3⟩ := hc
  obtain ⟨hw1, hw0⟩ := wanted_of K hg
  cases V with
  | nil =>
    have hs : sat s [] := fun e he => by cases he
    have he := opGen_ok (hv hs)
    refine ⟨s.set o.dst v s.h, ?_, fun rest Q w => ?_⟩
    · have := K.set0 (d := o.dst) (v := v) (h := s.h) (P := match P with | some P => g.sd ∧ P | none => g.sd) (cl := g.cl && (emptyV [] && P.isNone)) h1
      unfold putG
      rw [K.h] at this ⊢
      cases hd : o.dst with
      | none => rw [hd] at this; exact this
      | some t => rw [hd] at this; exact this
    · obtain ⟨out, e, q⟩ := w
      exact ⟨out, by rw [opsA_cons, hw1 hs]; simp only; rw [he]; exact e, q⟩
  | cons e0 V =>
    cases hd : o.dst with
    | none => rw [hd] at h2; cases h2
    | some t =>
      rw [hd] at h1 h2 h3
      simp only [emptyV, Bool.or_false] at h2
      have hn : Nat.ble (Nat.succ t) s.n = true := by rw [K.n]; exact h2
      by_cases hs : sat s (e0 :: V)
      · have he := opGen_ok (hv hs)
        rw [hd] at he
        refine ⟨s.set (some t) v s.h, ?_, fun rest Q w => ?_⟩
        · exact K.setV (P := match P with | some P => g.sd ∧ P | none => g.sd) (cl := g.cl && (emptyV (e0 :: V) && P.isNone)) h1 hn (idIn_ne (show idIn t (e0 :: V) = false from h3)) (fun _ => rfl) (fun h => absurd hs h)
        · obtain ⟨out, e, q⟩ := w
          exact ⟨out, by rw [opsA_cons, hw1 hs]; simp only; rw [he]; exact e, q⟩
      · refine ⟨s.set (some t) (.tup []) s.h, ?_, fun rest Q w => ?_⟩
        · exact K.setV (P := match P with | some P => g.sd ∧ P | none => g.sd) (cl := g.cl && (emptyV (e0 :: V) && P.isNone)) h1 hn (idIn_ne (show idIn t (e0 :: V) = false from h3)) (fun h => absurd h hs) (fun _ => rfl)
        · obtain ⟨out, e, q⟩ := w
          exact ⟨out, by rw [opsA_cons, hw0 hs, hd]; exact e, q⟩
theorem idxIn_congr {tm tm' : T AV} {op : Op} (e : Agree C tm tm' (opdsOf op)) : idxIn C tm op = idxIn C tm' op := by
  cases op <;> first | rfl | (unfold idxIn; simp only; rw [e _ (by simp [opdsOf, Op.operands]), e _ (by simp [opdsOf, Op.operands])])
theorem byteIn_congr {tm tm' : T AV} {op : Op} (e : Agree C tm tm' (opdsOf op)) : byteIn C tm op = byteIn C tm' op := by
  cases op <;> first | rfl | (unfold byteIn; simp only; rw [e _ (by simp [opdsOf, Op.operands]), e _ (by simp [opdsOf, Op.operands])])
theorem idxIn_ok {tm : T AV} {op : Op} {r : IdxR} {h : Heap} (e : idxIn C tm op = some r) (hr : Ix r.n r.l) : opGen C F tm h op = some (.ptrR (avT r.t (elAt r.t r.l r.n.toNat)) 0, h) := by
  unfold idxIn at e
  split at e
  · rename_i t a i
    split at e
    · rename_i el hu
      split at e
      · rename_i pt l ex ha
        split at e
        · rename_i k n hi
          cases hb : (knownT C el && Nat.beq (sizeT C el) (width pt)) with
          | false => rw [hb] at e; cases e
          | true =>
            rw [hb] at e
            cases e
            show keep h (opIndexAddr C t (evalO C tm a) (evalO C tm i)) = _
            rw [ha, hi]
            unfold opIndexAddr
            rw [natOf_of hr.1, hu]
            simp only
            rw [show Nat.ble (Nat.succ n.toNat) l.length = true from Nat.ble_eq_true_of_le (by have h1 : 0 ≤ n := hr.1; have h2 : n < ((l.length : Nat) : Int) := hr.2; omega), hb]
            rfl
        · cases e
      · cases e
    · cases e
  · cases e
theorem byteIn_ok {tm : T AV} {op : Op} {r : ByR} {h : Heap} (e : byteIn C tm op = some r) (hr : Ix r.n r.s) : opGen C F tm h op = some (.int .u8 ((byteAt r.s r.n).toNat : Nat), h) := by
  unfold byteIn at e
  split at e
  · rename_i t a i
    split at e
    · rename_i hu
      split at e
      · rename_i str ha
        split at e
        · rename_i k n hi
          cases e
          show keep h (opIndex C t (evalO C tm a) (evalO C tm i)) = _
          rw [ha, hi]
          unfold opIndex
          rw [natOf_of hr.1, hu]
          simp only
          rw [nth_eq]
          have : n.toNat < str.length := by have h1 : 0 ≤ n := hr.1; have h2 : n < ((str.length : Nat) : Int) := hr.2; omega
          rw [List.getElem?_eq_getElem this]
          unfold byteAt
          simp only
          rw [List.getD_eq_getElem?_getD, List.getElem?_eq_getElem this]
          rfl
        · cases e
      · cases e
    · cases e
  · cases e
theorem rsIn_congr {h : Heap} {tm tm' : T AV} {op : Op} (e : Agree C tm tm' (opdsOf op)) : rsIn C h tm op = rsIn C h tm' op := by
  cases op <;> try rfl
  rename_i c
  obtain ⟨cal, args, ts⟩ := c
  cases cal with
  | value f =>
    have e1 : evalO C tm f = evalO C tm' f := e f (by simp [opdsOf, Op.operands, Call.operands])
    have e2 : Agree C tm tm' args.toList := fun x hx => e x (by simp [opdsOf, Op.operands, Call.operands]; exact .inr (by simpa using hx))
    unfold rsIn
    simp only
    rw [e1, evalL_congr e2]
  | _ => rfl
theorem rsIn_ok (hF : SpF C F) {tm : T AV} {op : Op} {v : AV} {o : Option Prop} {h : Heap} (e : rsIn C h tm op = some (v, o)) (ho : holdsO o) : opGen C F tm h op = some (v, h) := by
  unfold rsIn at e
  split at e
  · rename_i c
    split at e
    · rename_i f hf
      split at e
      · rename_i g args hca
        unfold opGen
        simp only [hf, hca]
        rw [hF g args v o h e ho]
      · cases e
    · cases e
  · cases e
theorem intIn_congr {tm tm' : T AV} {x : Operand} (e : evalO C tm x = evalO C tm' x) : intIn C tm x = intIn C tm' x := by unfold intIn; rw [e]
theorem cutL_congr {α : Type} {tm tm' : T AV} {l : List α} {lo hi : Option Operand} {mk : List α → Bool → AV} (h1 : Agree C tm tm' lo.toList) (h2 : Agree C tm tm' hi.toList) : cutL C tm l lo hi mk = cutL C tm' l lo hi mk := by
  unfold cutL
  cases lo with
  | none =>
    cases hi with
    | none => rfl
    | some y => simp only; rw [intIn_congr (h2 y (by simp))]
  | some x =>
    simp only
    rw [intIn_congr (h1 x (by simp))]
    cases hi with
    | none => rfl
    | some y => simp only; rw [intIn_congr (h2 y (by simp))]
theorem cutIn_congr {tm tm' : T AV} {op : Op} (e : Agree C tm tm' (opdsOf op)) : cutIn C tm op = cutIn C tm' op := by
  cases op <;> try rfl
  rename_i t x lo hi mx
  cases mx with
  | some m => rfl
  | none =>
    have hx : evalO C tm x = evalO C tm' x := e x (by simp [opdsOf, Op.operands])
    have hlo : Agree C tm tm' lo.toList := fun y hy => e y (by simp [opdsOf, Op.operands] at hy ⊢; simp [hy])
    have hhi : Agree C tm tm' hi.toList := fun y hy => e y (by simp [opdsOf, Op.operands] at hy ⊢; simp [hy])
    unfold cutIn
    simp only
    rw [hx]
    split
    · split
      · exact cutL_congr hlo hhi
      · rfl
    · split
      · rw [cutL_congr hlo hhi]
      · rfl
    · rfl
/-- the bounds are those -/
theorem cut_bounds {α : Type} {tm : T AV} {l : List α} {lo hi : Option Operand} {mk : List α → Bool → AV} {r : CutR} (e : cutL C tm l lo hi mk = some r) (hr : r.P) :
    ∃ a b, boundsA (optO C tm lo) (optO C tm hi) none l.length l.length = some (a, b, l.length) ∧ b ≤ l.length ∧ a ≤ b ∧
      ((hi = none ∧ b = l.length ∧ r.v = mk (l.drop a) true) ∨ (hi.isSome = true ∧ r.v = mk ((l.take b).drop a) false)) := by
  have bo : ∀ (lo hi : Option AV) (a b : Nat), boundA lo 0 = some a → boundA hi l.length = some b → a ≤ b → b ≤ l.length → boundsA lo hi none l.length l.length = some (a, b, l.length) := by
    intro lo hi a b h1 h2 h3 h4
    unfold boundsA
    rw [h1, h2]
    show (bif cutOk a b l.length l.length && _ then _ else _) = _
    unfold cutOk
    rw [show Nat.ble l.length l.length = true from Nat.ble_eq_true_of_le (Nat.le_refl _), show Nat.ble b l.length = true from Nat.ble_eq_true_of_le h4, show Nat.ble a b = true from Nat.ble_eq_true_of_le h3]
    rfl
  have it : ∀ {x : Operand} {n : Int}, intIn C tm x = some n → 0 ≤ n → ∀ d, boundA (optO C tm (some x)) d = some n.toNat := by
    intro x n h hn d
    unfold intIn at h
    split at h
    · rename_i k m hm
      cases h
      show natOf (evalO C tm x) = _
      rw [hm]; exact natOf_of hn
    · cases h
  unfold cutL at e
  split at e
  · split at e
    · cases e
      exact ⟨0, l.length, bo _ _ _ _ rfl rfl (Nat.zero_le _) (Nat.le_refl _), Nat.le_refl _, Nat.zero_le _, .inl ⟨rfl, rfl, by rw [List.drop_zero]⟩⟩
    · rename_i y
      split at e
      · rename_i b hb
        cases e
        have h1 : 0 ≤ b := hr.1
        have h2 : b ≤ ((l.length : Nat) : Int) := hr.2
        exact ⟨0, b.toNat, bo _ _ _ _ rfl (it hb h1 _) (Nat.zero_le _) (by omega), by omega, Nat.zero_le _, .inr ⟨rfl, by rw [List.drop_zero]⟩⟩
      · cases e
  · rename_i x
    split at e
    · cases e
    · rename_i a ha
      split at e
      · cases e
        have h1 : 0 ≤ a := hr.1
        have h2 : a ≤ ((l.length : Nat) : Int) := hr.2
        exact ⟨a.toNat, l.length, bo _ _ _ _ (it ha h1 _) rfl (by omega) (Nat.le_refl _), Nat.le_refl _, by omega, .inl ⟨rfl, rfl, rfl⟩⟩
      · rename_i y
        split at e
        · rename_i b hb
          cases e
          have h1 : 0 ≤ a := hr.1
          have h2 : a ≤ b := hr.2.1
          have h3 : b ≤ ((l.length : Nat) : Int) := hr.2.2
          exact ⟨a.toNat, b.toNat, bo _ _ _ _ (it ha h1 _) (it hb (by omega) _) (by omega) (by omega), by omega, by omega, .inr ⟨rfl, rfl⟩⟩
        · cases e
theorem cutIn_ok {tm : T AV} {op : Op} {r : CutR} {h : Heap} (e : cutIn C tm op = some r) (hr : r.P) : opGen C F tm h op = some (r.v, h) := by
  unfold cutIn at e
  split at e
  · rename_i t x lo hi
    show keep h (opSlice C h t (evalO C tm x) (optO C tm lo) (optO C tm hi) (optO C tm none)) = _
    unfold opSlice
    split at e
    · rename_i hu
      rw [hu]
      simp only
      split at e
      · rename_i s hs
        obtain ⟨a, b, h1, h2, h3, h4⟩ := cut_bounds e hr
        rw [hs]
        unfold sliceS
        show keep h (bif true then (match boundsA (optO C tm lo) (optO C tm hi) none (lenN s) (lenN s) with | some (l, h, _) => some (AV.str (takeN (dropN s l) (Nat.sub h l))) | none => none) else none) = _
        rw [lenN_eq, h1]
        simp only [cond_true, takeN_eq, dropN_eq]
        rcases h4 with ⟨_, h5, h6⟩ | ⟨_, h6⟩
        · rw [h6, List.take_of_length_le (by rw [List.length_drop]; show _ ≤ b - a; omega)]; rfl
        · rw [h6, List.drop_take]; rfl
      · cases e
    · rename_i el hu
      rw [hu]
      simp only
      split at e
      · rename_i pt l ex hs
        cases hb : (knownT C el && Nat.beq (sizeT C el) (width pt)) with
        | false => rw [hb] at e; cases e
        | true =>
          rw [hb] at e
          simp only [cond_true] at e
          rw [Bool.and_eq_true] at hb
          obtain ⟨a, b, h1, h2, h3, h4⟩ := cut_bounds e hr
          rw [hs, hb.1]
          unfold sliceV
          simp only [cond_true, hb.2, Bool.not_true, cond_false]
          show keep h (match boundsA (optO C tm lo) (optO C tm hi) none l.length l.length with | some (l', h, m) => (match optO C tm hi with | some _ => some (AV.slT pt ((l.take h).drop l') false) | none => some (.slT pt (l.drop l') ex)) | none => none) = _
          rw [h1]
          simp only
          rcases h4 with ⟨h4, h5, h6⟩ | ⟨h4, h6⟩
          · subst h4
            rw [h6]; rfl
          · cases hi with
            | none => cases h4
            | some y => rw [h6]; rfl
      · cases e
    · cases e
  · cases e
theorem segOp_ok (hF : SpF C F) (K : SGok s g) (e : segOp C F ops o g = some g') (hs : g'.sd) : (∃ s', SGok s' g' ∧ ∀ rest Q, WO C F ops rest s' Q → WO C F ops (o :: rest) s Q) ∧ g.sd := by
  unfold segOp at e
  split at e
  · cases e
  · rename_i V hg
    cases hc : badV g o.dst V with
    | true => rw [hc] at e; cases e
    | false =>
      rw [hc] at e
      simp only [cond_false] at e
      split at e
      · -- a choice
        rename_i c a b hop
        cases hb : (subV (opdV g.vs c) V && pickOk g.vs c a b V) with
        | false => rw [hb] at e; cases e
        | true =>
          rw [hb] at e
          simp only [cond_true] at e
          rw [Bool.and_eq_true] at hb
          split at e
          · rename_i x hx
            split at e
            · rename_i v hm
              cases e
              refine ⟨done_of K hg hc fun hV => ?_, hs⟩
              rw [hop]
              show keep s.h (opPick (evalO C s.tm c) (evalO C s.tm a) (evalO C s.tm b)) = _
              have ec := K.opd (C := C) hV hb.1
              rw [ec, hx]
              rw [hx] at ec
              have hab : (bif x then evalO C s.tm a else evalO C s.tm b) = (bif x then evalO C g.o.tm a else evalO C g.o.tm b) := by
                have hp := hb.2
                unfold pickOk at hp
                cases c with
                | tmp t =>
                  simp only [Bool.and_eq_true] at hp
                  have ht : s.tm.get t = some (.bool x) := by
                    unfold evalO at ec
                    simp only at ec
                    cases hg2 : s.tm.get t with
                    | none => rw [hg2] at ec; cases ec
                    | some u => rw [hg2] at ec; simp only at ec; rw [ec]
                  cases x with
                  | true => exact K.opd (V := (t, true) :: V) (fun e he => by rcases List.mem_cons.1 he with rfl | he; exact ht; exact hV e he) hp.1
                  | false => exact K.opd (V := (t, false) :: V) (fun e he => by rcases List.mem_cons.1 he with rfl | he; exact ht; exact hV e he) hp.2
                | _ =>
                  simp only [Bool.and_eq_true] at hp
                  cases x with
                  | true => exact K.opd hV hp.1
                  | false => exact K.opd hV hp.2
              show keep s.h (some (bif x then evalO C s.tm a else evalO C s.tm b)) = _
              rw [hab, ← merge_of hm]; rfl
            · cases e
          · cases e
      · rename_i hnp
        cases hx : ((cls C o.op == .x) || (!(subAll g.vs (opdsOf o.op) V) || ownIx C g.o.tm o.op)) with
        | true => rw [hx] at e; cases e
        | false =>
          rw [hx] at e
          simp only [cond_false] at e
          rw [Bool.or_eq_false_iff, Bool.or_eq_false_iff, Bool.not_eq_false'] at hx
          have hx1 : cls C o.op ≠ .x := fun h => by rw [h] at hx; exact absurd hx.1 (by decide)
          have A : sat s V → Agree C s.tm g.o.tm (opdsOf o.op) := fun hv => K.opds hv hx.2.1
          split at e
          · rename_i v hr
            cases e
            exact ⟨done_of K hg hc fun hv => rsIn_ok hF (o := none) (K.h ▸ (rsIn_congr (A hv)).trans hr) trivial, hs⟩
          · rename_i v P hr
            cases e
            obtain ⟨s1, s2⟩ := hs
            exact ⟨done_of K hg hc fun hv => rsIn_ok hF (o := some P) (K.h ▸ (rsIn_congr (A hv)).trans hr) (K.imp hv s2), s1⟩
          split at e
          · rename_i r hr
            cases e
            obtain ⟨s1, s2⟩ := hs
            refine ⟨done_of K hg hc fun hv => ?_, s1⟩
            have := idxIn_ok (C := C) (F := F) (h := s.h) (e := (idxIn_congr (A hv)).trans hr) (K.imp hv s2)
            exact this
          · split at e
            · rename_i r hr
              cases e
              obtain ⟨s1, s2⟩ := hs
              refine ⟨done_of K hg hc fun hv => ?_, s1⟩
              exact byteIn_ok (C := C) (F := F) (h := s.h) (e := (byteIn_congr (A hv)).trans hr) (K.imp hv s2)
            · split at e
              · rename_i r hr
                cases e
                obtain ⟨s1, s2⟩ := hs
                refine ⟨done_of K hg hc fun hv => ?_, s1⟩
                exact cutIn_ok (C := C) (F := F) (h := s.h) (e := (cutIn_congr (A hv)).trans hr) (K.imp hv s2)
              split at e
              · rename_i v hv
                cases e
                refine ⟨done_of K hg hc fun hV => ?_, hs⟩
                rw [opGen_congr hx1 (A hV), K.h]
                exact opPure_gen hx1 hv
              · split at e
                · split at e
                  · rename_i v h' hv
                    cases e
                    refine ⟨?_, hs⟩
                    have hV : sat s [] := fun e he => by cases he
                    have h1 : opGen C F s.tm s.h o.op = some (v, h') := by rw [opGen_congr hx1 (A hV), K.h]; exact hv
                    unfold badV at hc
                    simp only [Bool.or_eq_false_iff, Bool.not_eq_false'] at hc
                    refine ⟨s.set o.dst v h', K.set0 hc.1.1, fun rest Q w => ?_⟩
                    obtain ⟨out, e, q⟩ := w
                    exact ⟨out, by rw [opsA_cons, (wanted_of K hg).1 hV]; simp only; rw [opGen_ok h1]; exact e, q⟩
                  · cases e
                · cases e
theorem segN_ok (hF : SpF C F) : ∀ (l : List Oper) {s : St} {g g' : SG}, SGok s g → segN C F ops l g = some g' → g'.sd → (∃ s', SGok s' g' ∧ ∀ rest Q, WO C F ops rest s' Q → WO C F ops (l ++ rest) s Q) ∧ g.sd
  | [], s, g, g', K, e, hs => by cases e; exact ⟨⟨s, K, fun _ _ w => w⟩, hs⟩
  | o :: l, s, g, g', K, e, hs => by
    have e : (match segOp C F ops o g with | some g => segN C F ops l g | none => none) = some g' := e
    split at e
    · rename_i g1 h1
      have step : g1.sd → _ := fun q => segOp_ok hF K h1 q
      -- the sides of what comes behind hold only if those before do
      have hg1 : g1.sd := by
        have : ∀ (l : List Oper) {g g' : SG}, segN C F ops l g = some g' → g'.sd → g.sd := by
          intro l
          induction l with
          | nil => intro g g' e h; cases e; exact h
          | cons o l ih =>
            intro g g' e h
            have e : (match segOp C F ops o g with | some g => segN C F ops l g | none => none) = some g' := e
            split at e
            · rename_i g2 h2
              have h3 := ih e h
              unfold segOp at h2
              split at h2
              · cases h2
              · rename_i V hg
                cases hc : badV g o.dst V with
                | true => rw [hc] at h2; cases h2
                | false =>
                  rw [hc] at h2
                  simp only [cond_false] at h2
                  split at h2
                  · rename_i c a b hop
                    cases hb : (subV (opdV g.vs c) V && pickOk g.vs c a b V) with
                    | false => rw [hb] at h2; cases h2
                    | true =>
                      rw [hb] at h2
                      simp only [cond_true] at h2
                      split at h2
                      · split at h2
                        · cases h2; exact h3
                        · cases h2
                      · cases h2
                  · cases hx : ((cls C o.op == .x) || (!(subAll g.vs (opdsOf o.op) V) || ownIx C g.o.tm o.op)) with
                    | true => rw [hx] at h2; cases h2
                    | false =>
                      rw [hx] at h2
                      simp only [cond_false] at h2
                      split at h2
                      · cases h2; exact h3
                      · cases h2; exact h3.1
                      split at h2
                      · cases h2; exact h3.1
                      · split at h2
                        · cases h2; exact h3.1
                        · split at h2
                          · cases h2; exact h3.1
                          split at h2
                          · cases h2; exact h3
                          · split at h2
                            · split at h2
                              · cases h2; exact h3
                              · cases h2
                            · cases h2
            · cases e
        exact this l e hs
      obtain ⟨⟨s1, K1, w1⟩, q1⟩ := segOp_ok hF K h1 hg1
      obtain ⟨⟨s2, K2, w2⟩, _⟩ := segN_ok hF l K1 e hs
      exact ⟨⟨s2, K2, fun rest Q w => w1 _ _ (w2 rest Q w)⟩, q1⟩
    · cases e
/-- what is guarded is not known -/
def mixT (t : St) (vs : List (Nat × Gd)) (tm : T AV) : T AV := List.rec tm (fun e _ ih => ih.put e.1 (match t.tm.get e.1 with | some v => v | none => .dead)) vs
def mixS (t : St) (g : SG) : St := ⟨g.o.n, mixT t g.vs g.o.tm, g.o.h, g.o.ds, g.o.pn⟩
theorem mixT_ok (t : St) {tm : T AV} (hl : t.tm.like tm) : ∀ (vs : List (Nat × Gd)), (∀ e ∈ vs, ∃ v, t.tm.get e.1 = some v) → t.tm.like (mixT t vs tm) ∧ ∀ j, (mixT t vs tm).get j = t.tm.get j ∨ ((∀ e ∈ vs, e.1 ≠ j) ∧ (mixT t vs tm).get j = tm.get j)
  | [], _ => ⟨hl, fun j => .inr ⟨fun e h => (by cases h), rfl⟩⟩
  | e :: vs, h => by
    obtain ⟨h1, h2⟩ := mixT_ok t hl vs fun x hx => h x (List.mem_cons_of_mem _ hx)
    obtain ⟨v, hv⟩ := h e (List.mem_cons_self ..)
    have hd : mixT t (e :: vs) tm = (mixT t vs tm).put e.1 v := by
      show (mixT t vs tm).put e.1 (match t.tm.get e.1 with | some v => v | none => .dead) = _
      rw [hv]
    rw [hd]
    refine ⟨?_, fun j => ?_⟩
    · have := T.put_like _ _ e.1 v v h1
      rw [T.put_get _ _ _ hv] at this
      exact this
    · rw [T.get_put]
      by_cases hj : j = e.1
      · subst hj; rw [if_pos rfl]; exact .inl hv.symm
      · rw [if_neg hj]
        rcases h2 j with h2 | ⟨h2, h3⟩
        · exact .inl h2
        · exact .inr ⟨fun x hx => by
            rcases List.mem_cons.1 hx with rfl | hx
            · exact fun q => hj q.symm
            · exact h2 x hx, h3⟩
theorem mixS_eq {s : St} {g : SG} (K : SGok s g) : s = mixS s g := by
  obtain ⟨h1, h2⟩ := mixT_ok s K.like g.vs K.som
  have ht : s.tm = mixT s g.vs g.o.tm := T.ext _ _ h1 fun j => by
    rcases h2 j with h2 | ⟨h2, h3⟩
    · exact h2.symm
    · rw [h3]; exact K.free j h2
  have hn := K.n; have hh := K.h; have hd := K.ds; have hp := K.pn
  obtain ⟨n, tm, h, ds, pn⟩ := s
  simp only at hn hh hd hp ht
  unfold mixS
  rw [← ht, ← hn, ← hh, ← hd, ← hp]
theorem SGok.refl (s : St) (P : Prop) : SGok s ⟨s, [], P, true⟩ := ⟨rfl, rfl, rfl, rfl, T.like_refl _, fun _ _ => rfl, fun e h => (by cases h), fun e h => (by cases h), fun e h => (by cases h)⟩
end
section
variable {x : X} {Q : Out → Prop}
def segX (C : Cfg) (F : Fns) (n m : Nat) (x : X) : Option SG := match goX C F n x with | some y => (match y.p with | .ops ops l => segN C F ops (takeN l m) ⟨y.s, [], True, true⟩ | _ => none) | none => none
def sdX (C : Cfg) (F : Fns) (n m : Nat) (x : X) : Option Prop := match segX C F n m x with | some g => some g.sd | none => none
def segY (C : Cfg) (F : Fns) (n m : Nat) (x : X) (t : St) : X :=
  match (goN C F n x).p with
  | .ops ops l => ⟨.ops ops (dropN l m), (goN C F n x).k, match segX C F n m x with | some g => mixS t g | none => t⟩
  | _ => x
/-- so many operations, guarded ones among them; sd: what is asked of indexes -/
theorem WK.gi (hF : SpF C F) (n m : Nat) (sd : Prop) (hs : sd) (w : ∀ t, WK C F (segY C F n m x t) Q) (h : sdX C F n m x = some sd := by kernel_rfl) : WK C F x Q := by
  unfold sdX at h
  split at h
  · rename_i g hg
    cases h
    have hg0 := hg
    unfold segX at hg
    split at hg
    · rename_i y hy
      have w : ∀ t, WK C F (match y.p with | .ops ops l => ⟨.ops ops (dropN l m), y.k, mixS t g⟩ | _ => x) Q := by
        intro t
        have w := w t
        unfold segY at w
        rw [goX_N hy, hg0] at w
        exact w
      refine goX_ok n hy ?_
      obtain ⟨p, k, s⟩ := y
      cases p with
      | code c => cases hg
      | ops ops l =>
        simp only at hg w
        obtain ⟨⟨s', K', go⟩, _⟩ := segN_ok hF (takeN l m) (SGok.refl s True) hg hs
        have e : l = takeN l m ++ dropN l m := by rw [takeN_eq, dropN_eq, List.take_append_drop]
        show WO C F ops l s _
        rw [e]
        refine go _ _ ?_
        have := w s'
        rw [← mixS_eq K'] at this
        exact this
    · cases hg
  · cases h
theorem WK.g (hF : SpF C F) (n m : Nat) (w : ∀ t, WK C F (segY C F n m x t) Q) (h : sdX C F n m x = some True := by kernel_rfl) : WK C F x Q := WK.gi hF n m True trivial w h
end
end
end
end Go.Abs
namespace Go.Abs
noncomputable section
open Go
/-! ## A region whose order is open, run in one go -/
structure DS where
  d : Dr
  /-- calls that left memory as it was; stores, and into which block -/
  pl : List Nat
  st : List (Nat × Nat)
  sd : Prop
  cl : Bool
def putR (o : Oper) (d : Dr) (v : AV) : Dr := { s := d.s.set o.dst v d.s.h, made := d.made, reads := d.reads, ms := d.ms }
def putM (j : Nat) (o : Oper) (d : Dr) (v : AV) : Dr := { s := d.s.set o.dst v d.s.h, made := d.made, reads := d.reads, ms := (j, d.s.h, d.s.h) :: d.ms }
def fallD (C : Cfg) (F : Fns) (j : Nat) (o : Oper) (x : DS) : Option DS := match drawStep C F j o x.d with | some (.inl d') => some ⟨d', x.pl, x.st, x.sd, x.cl⟩ | _ => none
/-- into which block a store goes, where that block alone is changed -/
def storeTo (C : Cfg) (s : St) (op : Op) : Option Nat :=
  match op with
  | .store _ a _ => match evalO C s.tm a with
    | .ptrO id _ => match s.h.get id with
      | some b => bif b.forked then none else some id
      | none => none
    | _ => none
  | _ => none
def stepD (C : Cfg) (F : Fns) (j : Nat) (o : Oper) (x : DS) : Option DS :=
  match o.guard with
  | some _ => none
  | none =>
    match cls C o.op with
    | .q => match idxIn C x.d.s.tm o.op with
      | some r => some ⟨putR o x.d (.ptrR (avT r.t (elAt r.t r.l r.n.toNat)) 0), x.pl, x.st, x.sd ∧ Ix r.n r.l, false⟩
      | none => match byteIn C x.d.s.tm o.op with
        | some r => some ⟨putR o x.d (.int .u8 ((byteAt r.s r.n).toNat : Nat)), x.pl, x.st, x.sd ∧ Ix r.n r.s, false⟩
        | none => match cutIn C x.d.s.tm o.op with
          | some r => some ⟨putR o x.d r.v, x.pl, x.st, x.sd ∧ r.P, false⟩
          | none => fallD C F j o x
    | .m => match rsIn C x.d.s.h x.d.s.tm o.op with
      | some (v, none) => some ⟨putM j o x.d v, j :: x.pl, x.st, x.sd, x.cl⟩
      | some (v, some P) => some ⟨putM j o x.d v, j :: x.pl, x.st, x.sd ∧ P, false⟩
      | none => match storeTo C x.d.s o.op with
        | some id => fallD C F j o { d := x.d, pl := x.pl, st := (j, id) :: x.st, sd := x.sd, cl := x.cl }
        | none => fallD C F j o x
    | _ => fallD C F j o x
def runD (C : Cfg) (F : Fns) (l : List Oper) : Nat → DS → Option DS := List.rec (fun _ x => some x) (fun o _ ih j x => match stepD C F j o x with | some y => ih (Nat.succ j) y | none => none) l
section
variable {C : Cfg} {F : Fns} {ops : Array Oper} {Q : Out → Prop}
structure DInv (j : Nat) (x : DS) : Prop where
  p : ∀ p ∈ x.pl, p < j
  t : ∀ p ∈ x.st, p.1 < j
  m : ∀ m ∈ x.d.ms, m.1 < j
  c : ∀ m ∈ x.d.ms, m.1 ∈ x.pl → m.2.1 = m.2.2
  s : ∀ m ∈ x.d.ms, ∀ p ∈ x.st, p.1 = m.1 → ∀ k, k ≠ p.2 → m.2.2.get k = m.2.1.get k
theorem DInv.same {j : Nat} {x y : DS} (I : DInv j x) (h1 : y.pl = x.pl) (h2 : y.st = x.st) (h3 : ∀ m ∈ y.d.ms, m ∈ x.d.ms ∨ m.1 = j) : DInv (Nat.succ j) y where
  p := fun p hp => Nat.lt_succ_of_lt (I.p p (h1 ▸ hp))
  t := fun p hp => Nat.lt_succ_of_lt (I.t p (h2 ▸ hp))
  m := fun m hm => by rcases h3 m hm with h | h; exact Nat.lt_succ_of_lt (I.m m h); rw [h]; exact Nat.lt_succ_self _
  c := fun m hm hp => by
    rcases h3 m hm with h | h
    · exact I.c m h (h1 ▸ hp)
    · have := I.p m.1 (h1 ▸ hp); omega
  s := fun m hm p hp e k hk => by
    rcases h3 m hm with h | h
    · exact I.s m h p (h2 ▸ hp) e k hk
    · have := I.t p (h2 ▸ hp); omega
theorem DInv.call {j : Nat} {x y : DS} {hh : Heap} (I : DInv j x) (h1 : y.pl = j :: x.pl) (h2 : y.st = x.st) (h3 : y.d.ms = (j, hh, hh) :: x.d.ms) : DInv (Nat.succ j) y where
  p := fun p hp => by rw [h1] at hp; rcases List.mem_cons.1 hp with rfl | hp; exact Nat.lt_succ_self _; exact Nat.lt_succ_of_lt (I.p p hp)
  t := fun p hp => Nat.lt_succ_of_lt (I.t p (h2 ▸ hp))
  m := fun m hm => by rw [h3] at hm; rcases List.mem_cons.1 hm with rfl | hm; exact Nat.lt_succ_self _; exact Nat.lt_succ_of_lt (I.m m hm)
  c := fun m hm hp => by
    rw [h3] at hm
    rw [h1] at hp
    rcases List.mem_cons.1 hm with rfl | hm
    · rfl
    · rcases List.mem_cons.1 hp with e | hp
      · have := I.m m hm; omega
      · exact I.c m hm hp
  s := fun m hm p hp e k hk => by
    rw [h3] at hm
    rcases List.mem_cons.1 hm with rfl | hm
    · have := I.t p (h2 ▸ hp); simp only at e; omega
    · exact I.s m hm p (h2 ▸ hp) e k hk
theorem DInv.store {j id : Nat} {x y : DS} {h h' : Heap} (I : DInv j x) (h1 : y.pl = x.pl) (h2 : y.st = (j, id) :: x.st) (h3 : y.d.ms = (j, h, h') :: x.d.ms) (hk : ∀ k, k ≠ id → h'.get k = h.get k) : DInv (Nat.succ j) y where
  p := fun p hp => Nat.lt_succ_of_lt (I.p p (h1 ▸ hp))
  t := fun p hp => by rw [h2] at hp; rcases List.mem_cons.1 hp with rfl | hp; exact Nat.lt_succ_self _; exact Nat.lt_succ_of_lt (I.t p hp)
  m := fun m hm => by rw [h3] at hm; rcases List.mem_cons.1 hm with rfl | hm; exact Nat.lt_succ_self _; exact Nat.lt_succ_of_lt (I.m m hm)
  c := fun m hm hp => by
    rw [h3] at hm
    rw [h1] at hp
    rcases List.mem_cons.1 hm with rfl | hm
    · have := I.p _ hp; exact absurd this (Nat.lt_irrefl _)
    · exact I.c m hm hp
  s := fun m hm p hp e k hk' => by
    rw [h3] at hm
    rw [h2] at hp
    rcases List.mem_cons.1 hm with rfl | hm
    · rcases List.mem_cons.1 hp with rfl | hp
      · exact hk k hk'
      · have := I.t p hp; simp only at e; omega
    · rcases List.mem_cons.1 hp with rfl | hp
      · have := I.m m hm; simp only at e; omega
      · exact I.s m hm p hp e k hk'
theorem drawStep_ms {j : Nat} {o : Oper} {d d' : Dr} (hs : drawStep C F j o d = some (.inl d')) : ∀ m ∈ d'.ms, m ∈ d.ms ∨ m.1 = j := by
  intro m h1
  unfold drawStep at hs
  split at hs <;> first
    | (cases hs; done)
    | (split at hs <;> first
      | (cases hs; done)
      | (cases hs; exact .inl h1)
      | (cases hs; rcases List.mem_cons.1 h1 with rfl | h1; exact .inr rfl; exact .inl h1))
theorem wanted_ng {tm : T AV} {o : Oper} (hg : o.guard = none) : wantedA ops tm o = some true := by unfold wantedA; rw [hg]
theorem fallD_ok {j : Nat} {o : Oper} {x y : DS} (hg : o.guard = none) (e : fallD C F j o x = some y) : (∃ d', drawStep C F j o x.d = some (.inl d') ∧ y = ⟨d', x.pl, x.st, x.sd, x.cl⟩) ∧ ∀ rest, drawOps C F ops (predsOf ops.toList []) j (o :: rest) x.d = drawOps C F ops (predsOf ops.toList []) (Nat.succ j) rest y.d := by
  unfold fallD at e
  split at e
  · rename_i d' hd
    cases e
    refine ⟨⟨d', hd, rfl⟩, fun rest => ?_⟩
    rw [drawOps_cons, wanted_ng hg]
    simp only
    rw [hd]
  · cases e
theorem putR_step {j : Nat} {o : Oper} {d : Dr} {v : AV} (hc : cls C o.op = .q) (e : opGen C F d.s.tm Heap.empty o.op = some (v, Heap.empty)) : drawStep C F j o d = some (.inl (putR o d v)) := by
  have he := opGen_ok (C := C) (F := F) (o := o) (s := d.s.heap Heap.empty) e
  unfold drawStep
  rw [hc]
  simp only [he, set_heap2]
  rfl
theorem putM_step {j : Nat} {o : Oper} {d : Dr} {v : AV} (hc : cls C o.op = .m) (e : opGen C F d.s.tm d.s.h o.op = some (v, d.s.h)) : drawStep C F j o d = some (.inl (putM j o d v)) := by
  have he := opGen_ok (C := C) (F := F) (o := o) (s := d.s) e
  unfold drawStep
  rw [hc]
  simp only [he, (set_rest (s := d.s) (d := o.dst) (v := v) (h := d.s.h)).2.1]
  rfl
theorem store_step {j id : Nat} {o : Oper} {d d' : Dr} (hs : storeTo C d.s o.op = some id) (e : drawStep C F j o d = some (.inl d')) : ∃ h', d'.ms = (j, d.s.h, h') :: d.ms ∧ ∀ k, k ≠ id → h'.get k = d.s.h.get k := by
  unfold storeTo at hs
  split at hs
  · rename_i t a v hop
    split at hs
    · rename_i id' off ha
      split at hs
      · rename_i b hb
        cases hf : b.forked with
        | true => rw [hf] at hs; cases hs
        | false =>
          rw [hf] at hs
          cases hs
          unfold drawStep at e
          have hc : cls C o.op = .m := by rw [hop]; rfl
          rw [hc] at e
          simp only at e
          split at e
          · rename_i s' he
            cases e
            refine ⟨s'.h, rfl, ?_⟩
            unfold operA at he
            rw [hop] at he
            simp only at he
            have he : putO d.s o.dst (opA C d.s.tm d.s.h (.store t a v)) = some (.nrm s') := he
            have hA : opA C d.s.tm d.s.h (.store t a v) = opStore C d.s.h t (evalO C d.s.tm a) (evalO C d.s.tm v) := rfl
            rw [hA, ha] at he
            unfold opStore at he
            simp only at he
            cases hp : ((plainA (evalO C d.s.tm v) && knownT C t) && Nat.beq (lenN (evalO C d.s.tm v).cells) (sizeT C t)) with
            | false => rw [hp] at he; cases he
            | true =>
              rw [hp] at he
              simp only [cond_true] at he
              unfold storeAt at he
              rw [hb] at he
              simp only at he
              cases hq : (b.frz || !b.kind.isRow || !(Nat.ble (Nat.add off (lenN (evalO C d.s.tm v).cells)) (lenN b.cells))) with
              | true => rw [hq] at he; cases he
              | false =>
                rw [hq, hf] at he
                simp only [cond_false] at he
                unfold putO at he
                simp only [Option.some.injEq, Out.nrm.injEq] at he
                subst he
                intro k hk
                rw [set_rest.2.1, Heap.get_set, if_neg hk]
          · cases e
          · cases e
      · cases hs
    · cases hs
  · cases hs
theorem stepD_ok {j : Nat} {o : Oper} {x y : DS} (hF : SpF C F) (e : stepD C F j o x = some y) (hs : y.sd) (I : DInv j x) : x.sd ∧ DInv (Nat.succ j) y ∧ ∀ rest, drawOps C F ops (predsOf ops.toList []) j (o :: rest) x.d = drawOps C F ops (predsOf ops.toList []) (Nat.succ j) rest y.d := by
  unfold stepD at e
  split at e
  · cases e
  · rename_i hg
    have goS : ∀ {d' : Dr}, drawStep C F j o x.d = some (.inl d') → ∀ rest, drawOps C F ops (predsOf ops.toList []) j (o :: rest) x.d = drawOps C F ops (predsOf ops.toList []) (Nat.succ j) rest d' := fun h rest => by
      rw [drawOps_cons, wanted_ng hg]
      simp only
      rw [h]
    have fall : ∀ {y : DS}, fallD C F j o x = some y → y.sd → x.sd ∧ DInv (Nat.succ j) y ∧ ∀ rest, drawOps C F ops (predsOf ops.toList []) j (o :: rest) x.d = drawOps C F ops (predsOf ops.toList []) (Nat.succ j) rest y.d := fun e hs => by
      obtain ⟨⟨d', hd, rfl⟩, h⟩ := fallD_ok (ops := ops) hg e
      exact ⟨hs, I.same rfl rfl (drawStep_ms hd), h⟩
    have put : ∀ {v : AV} {sd : Prop} {cl : Bool}, cls C o.op = .q → opGen C F x.d.s.tm Heap.empty o.op = some (v, Heap.empty) → x.sd → x.sd ∧ DInv (Nat.succ j) ⟨putR o x.d v, x.pl, x.st, sd, cl⟩ ∧ ∀ rest, drawOps C F ops (predsOf ops.toList []) j (o :: rest) x.d = drawOps C F ops (predsOf ops.toList []) (Nat.succ j) rest (putR o x.d v) := fun hc e h =>
      ⟨h, I.same rfl rfl (fun m hm => .inl hm), goS (putR_step hc e)⟩
    split at e
    · rename_i hc
      split at e
      · rename_i r hr
        cases e
        exact put hc (idxIn_ok hr hs.2) hs.1
      · split at e
        · rename_i r hr
          cases e
          exact put hc (byteIn_ok hr hs.2) hs.1
        · split at e
          · rename_i r hr
            cases e
            exact put hc (cutIn_ok hr hs.2) hs.1
          · exact fall e hs
    · rename_i hc
      split at e
      · rename_i v hp
        cases e
        exact ⟨hs, I.call rfl rfl rfl, goS (putM_step hc (rsIn_ok hF hp trivial))⟩
      · rename_i v P hp
        cases e
        exact ⟨hs.1, I.call rfl rfl rfl, goS (putM_step hc (rsIn_ok hF hp hs.2))⟩
      · split at e
        · rename_i id hid
          obtain ⟨⟨d', hd, rfl⟩, h⟩ := fallD_ok (ops := ops) hg e
          obtain ⟨h', h1, h2⟩ := store_step hid hd
          exact ⟨hs, I.store rfl rfl h1 h2, h⟩
        · exact fall e hs
    · exact fall e hs
theorem runD_ok (hF : SpF C F) : ∀ (l : List Oper) {j : Nat} {x y : DS}, runD C F l j x = some y → y.sd → DInv j x → x.sd ∧ (∃ j', DInv j' y) ∧ drawOps C F ops (predsOf ops.toList []) j l x.d = some (.inl y.d)
  | [], j, x, y, e, hs, I => by cases e; exact ⟨hs, ⟨j, I⟩, rfl⟩
  | o :: l, j, x, y, e, hs, I => by
    have e : (match stepD C F j o x with | some y => runD C F l (Nat.succ j) y | none => none) = some y := e
    split at e
    · rename_i z hz
      -- what is asked behind holds only if what is asked before does
      have back : ∀ (l : List Oper) (j : Nat) {x y : DS}, runD C F l j x = some y → y.sd → x.sd := by
        intro l
        induction l with
        | nil => intro j x y e h; cases e; exact h
        | cons o l ih =>
          intro j x y e h
          have e : (match stepD C F j o x with | some y => runD C F l (Nat.succ j) y | none => none) = some y := e
          split at e
          · rename_i z hz
            have h2 := ih _ e h
            have hf : ∀ {x z : DS}, fallD C F j o x = some z → z.sd → x.sd := by
              intro x z e h
              unfold fallD at e
              split at e
              · cases e; exact h
              · cases e
            unfold stepD at hz
            split at hz
            · cases hz
            · split at hz
              · split at hz
                · cases hz; exact h2.1
                · split at hz
                  · cases hz; exact h2.1
                  · split at hz
                    · cases hz; exact h2.1
                    · exact hf hz h2
              · split at hz
                · cases hz; exact h2
                · cases hz; exact h2.1
                · split at hz
                  · exact hf (x := { d := x.d, pl := x.pl, st := (j, _) :: x.st, sd := x.sd, cl := x.cl }) hz h2
                  · exact hf hz h2
              · exact hf hz h2
          · cases e
      obtain ⟨h1, I1, g1⟩ := stepD_ok (ops := ops) hF hz (back l _ e hs) I
      obtain ⟨_, I2, g2⟩ := runD_ok hF l e hs I1
      exact ⟨h1, I2, (g1 l).trans g2⟩
    · cases e
/-- does what is read not hang on the order? -/
def readOkG (ps : List Nat) (x : DS) (r : Nat × Nat) : Bool :=
  (x.d.ms.all fun m => isPred ps m.1 r.1 || isPred ps r.1 m.1 || (flatOk m.2.1 r.2 && (x.pl.any (Nat.beq m.1) || x.st.any fun p => Nat.beq p.1 m.1 && !(Nat.beq p.2 r.2)))) && (x.d.made.all fun m => !Nat.beq m.2 r.2 || isPred ps m.1 r.1)
def endD (ops : Array Oper) (x : DS) : Bool := x.d.reads.all (readOkG (predsOf ops.toList []) x)
theorem endD_ok {j : Nat} {x : DS} (I : DInv j x) (h : endD ops x = true) : x.d.reads.all (readOk (predsOf ops.toList []) x.d.ms x.d.made) = true := by
  unfold endD at h
  rw [List.all_eq_true] at h ⊢
  intro r hr
  have h2 := h r hr
  unfold readOkG at h2
  unfold readOk
  rw [Bool.and_eq_true] at h2 ⊢
  refine ⟨?_, h2.2⟩
  have h3 := h2.1
  rw [List.all_eq_true] at h3 ⊢
  intro m hm
  have h4 := h3 m hm
  simp only [Bool.or_eq_true, Bool.and_eq_true] at h4 ⊢
  rcases h4 with h4 | ⟨h4, h5⟩
  · exact .inl h4
  · refine .inr ?_
    have same : m.2.2.get r.2 = m.2.1.get r.2 := by
      rcases h5 with h5 | h5
      · rw [List.any_eq_true] at h5
        obtain ⟨p, hp1, hp2⟩ := h5
        have hp3 : m.1 = p := Nat.eq_of_beq_eq_true hp2
        subst hp3
        rw [I.c m hm hp1]
      · rw [List.any_eq_true] at h5
        obtain ⟨p, hp1, hp2⟩ := h5
        simp only [Bool.and_eq_true, Bool.not_eq_true'] at hp2
        have h6 : p.1 = m.1 := Nat.eq_of_beq_eq_true hp2.1
        exact I.s m hm p hp1 h6 r.2 (fun e => by rw [e, Nat.beq_refl] at hp2; cases hp2.2)
    have h6 := sameBlk_flat h4
    unfold sameBlk at h6 ⊢
    rw [same]
    exact h6
/-- a whole region -/
def regD (C : Cfg) (F : Fns) (ops : Array Oper) (s : St) : Option DS :=
  bif drawOk C ops then
    match runD C F ops.toList 0 ⟨dr0 s, [], [], True, true⟩ with
    | some y => bif endD ops y then some y else none
    | none => none
  else none
theorem regD_ok (hF : SpF C F) {s : St} {y : DS} {id : Nat} (e : regD C F ops s = some y) (hs : y.sd) (q : Q (.nrm y.d.s)) : W C F (.region id ops true) s Q := by
  unfold regD at e
  cases h1 : drawOk C ops with
  | false => rw [h1] at e; cases e
  | true =>
    rw [h1] at e
    simp only [cond_true] at e
    split at e
    · rename_i z hz
      cases h2 : endD ops z with
      | false => rw [h2] at e; cases e
      | true =>
        rw [h2] at e
        cases e
        have I0 : DInv 0 (⟨dr0 s, [], [], True, true⟩ : DS) := ⟨fun _ h => (by cases h), fun _ h => (by cases h), fun _ h => (by cases h), fun _ h => (by cases h), fun _ h => (by cases h)⟩
        obtain ⟨_, ⟨j', I⟩, g⟩ := runD_ok (ops := ops) hF _ hz hs I0
        exact W.drawn h1 ⟨_, g, endD_ok I h2, q⟩
    · cases e
theorem stepD_cl {j : Nat} {o : Oper} {x y : DS} (e : stepD C F j o x = some y) (hc : y.cl = true) : x.cl = true ∧ (x.sd → y.sd) := by
  have hf : ∀ {x y : DS}, fallD C F j o x = some y → y.cl = true → x.cl = true ∧ (x.sd → y.sd) := by
    intro x y e hc
    unfold fallD at e
    split at e
    · cases e; exact ⟨hc, fun h => h⟩
    · cases e
  unfold stepD at e
  split at e
  · cases e
  · split at e
    · split at e
      · cases e; cases hc
      · split at e
        · cases e; cases hc
        · split at e
          · cases e; cases hc
          · exact hf e hc
    · split at e
      · cases e; exact ⟨hc, fun h => h⟩
      · cases e; cases hc
      · split at e
        · have := hf (x := { d := x.d, pl := x.pl, st := (j, _) :: x.st, sd := x.sd, cl := x.cl }) e hc
          exact this
        · exact hf e hc
    · exact hf e hc
theorem runD_cl : ∀ (l : List Oper) {j : Nat} {x y : DS}, runD C F l j x = some y → y.cl = true → x.cl = true ∧ (x.sd → y.sd)
  | [], j, x, y, e, hc => by cases e; exact ⟨hc, fun h => h⟩
  | o :: l, j, x, y, e, hc => by
    have e : (match stepD C F j o x with | some y => runD C F l (Nat.succ j) y | none => none) = some y := e
    split at e
    · rename_i z hz
      obtain ⟨h1, h2⟩ := runD_cl l e hc
      obtain ⟨h3, h4⟩ := stepD_cl hz h1
      exact ⟨h3, fun h => h2 (h4 h)⟩
    · cases e
theorem regD_cl {s : St} {y : DS} (e : regD C F ops s = some y) (hc : y.cl = true) : y.sd := by
  unfold regD at e
  cases h1 : drawOk C ops with
  | false => rw [h1] at e; cases e
  | true =>
    rw [h1] at e
    simp only [cond_true] at e
    split at e
    · rename_i z hz
      cases h2 : endD ops z with
      | false => rw [h2] at e; cases e
      | true =>
        rw [h2] at e
        cases e
        exact (runD_cl _ hz hc).2 trivial
    · cases e
end
end
end Go.Abs
namespace Go.Abs
noncomputable section
open Go
/-! ## The runner: from one stop to the next, with no counts -/
abbrev Spec (C : Cfg) (F : Fns) : Prop := Nonempty (PLift (SpF C F))
theorem Spec.ok {C : Cfg} {F : Fns} (h : Spec C F) : SpF C F := h.elim PLift.down
instance (C : Cfg) [RsC C] (n : Nat) : Spec C (fns C (n + 1)) := ⟨⟨spF_step C (fns C n)⟩⟩
section
variable (C : Cfg) (F : Fns)
def stepR (x : X) : Option X :=
  match x.p with
  | .code c => match c with
    | .skip => match x.k with | .lp _ :: _ => none | k => popK k x.s
    | .label _ => some ⟨.code .skip, x.k, x.s⟩
    | .region _ ops dr => bif dr then (match regD C F ops x.s with | some y => bif y.cl then some ⟨.code .skip, x.k, y.d.s⟩ else none | none => none) else some ⟨.ops ops ops.toList, x.k, x.s⟩
    | .seq a b => some ⟨.code a, .seq b :: x.k, x.s⟩
    | .block id c => some ⟨.code c, .blk id :: x.k, x.s⟩
    | .exit id => exitK id x.k x.s
    | _ => none
  | .ops ops l => match l with
    | [] => some ⟨.code .skip, x.k, forgetR C.trim ops x.s⟩
    | o :: l => match segOp C F ops o ⟨x.s, [], True, true⟩ with
      | some g => bif g.cl then some ⟨.ops ops l, x.k, g.o⟩ else none
      | none => none
def runR (n : Nat) : X → X := Nat.rec (fun x => x) (fun _ ih x => match stepR C F x with | some y => ih y | none => x) n
def R (x : X) : X := runR C F 2000 x
end
/-- a walk's goal: where what is told is the answer, the function comes to it -/
structure KV {γ : Type} (C : Cfg) (F : Fns) (A : γ → Out → Prop) (v : γ) (x : X) (cur : γ) : Prop where
  w : cur = v → WK C F x (A v)
section
variable {C : Cfg} {F : Fns} {x y : X} {Q : Out → Prop}
theorem segOp_clean {ops : Array Oper} {o : Oper} {s : St} {g : SG} (e : segOp C F ops o ⟨s, [], True, true⟩ = some g) (hc : g.cl = true) : g.vs = [] ∧ g.sd := by
  have key : ∀ (d : Option Nat) (V : Gd) (v : AV) (P : Option Prop), (putG ⟨s, [], True, true⟩ d V v P).cl = true → (putG ⟨s, [], True, true⟩ d V v P).vs = [] ∧ (putG ⟨s, [], True, true⟩ d V v P).sd := by
    intro d V v P h
    unfold putG at h ⊢
    simp only [Bool.true_and, Bool.and_eq_true] at h
    cases V with
    | nil =>
      cases P with
      | none => exact ⟨by cases d <;> rfl, trivial⟩
      | some P => cases h.2
    | cons a V => cases h.1
  unfold segOp at e
  split at e
  · cases e
  · rename_i V hg
    cases hb0 : badV ⟨s, [], True, true⟩ o.dst V with
    | true => rw [hb0] at e; cases e
    | false =>
      rw [hb0] at e
      simp only [cond_false] at e
      split at e
      · rename_i c a b hop
        cases hb : (subV (opdV [] c) V && pickOk [] c a b V) with
        | false => rw [hb] at e; cases e
        | true =>
          rw [hb] at e
          simp only [cond_true] at e
          split at e
          · split at e
            · cases e; exact key _ _ _ _ hc
            · cases e
          · cases e
      · cases hx : ((cls C o.op == .x) || (!(subAll [] (opdsOf o.op) V) || ownIx C s.tm o.op)) with
        | true => rw [hx] at e; cases e
        | false =>
          rw [hx] at e
          simp only [cond_false] at e
          split at e
          · cases e; exact key _ _ _ _ hc
          · cases e; exact key _ _ _ _ hc
          split at e
          · cases e; exact key _ _ _ _ hc
          · split at e
            · cases e; exact key _ _ _ _ hc
            · split at e
              · cases e; exact key _ _ _ _ hc
              split at e
              · cases e; exact key _ _ _ _ hc
              · split at e
                · split at e
                  · cases e; exact ⟨rfl, trivial⟩
                  · cases e
                · cases e
theorem mixS_nil {t : St} {g : SG} (h : g.vs = []) : mixS t g = g.o := by
  unfold mixS
  rw [h]
  rfl
theorem stepR_ok (hS : Spec C F) (h : stepR C F x = some y) (w : WK C F y Q) : WK C F x Q := by
  obtain ⟨p, k, s⟩ := x
  cases p with
  | code c =>
    by_cases hc : ∃ id ops, c = .region id ops true
    · obtain ⟨id, ops, rfl⟩ := hc
      unfold stepR at h
      simp only [cond_true] at h
      split at h
      · rename_i z hz
        cases hcl : z.cl with
        | false => rw [hcl] at h; cases h
        | true =>
          rw [hcl] at h
          cases h
          refine regD_ok hS.ok hz (regD_cl hz hcl) ?_
          obtain ⟨out, e, q⟩ := w
          cases e; exact q
      · cases h
    · refine stepX_ok (C := C) (F := F) (y := y) ?_ w
      unfold stepR at h
      unfold stepX
      cases c with
      | region id ops dr =>
        cases dr with
        | true => exact absurd ⟨id, ops, rfl⟩ hc
        | false => exact h
      | _ => first | exact h | (cases h; done)
  | ops ops l =>
    unfold stepR at h
    simp only at h
    split at h
    · cases h
      obtain ⟨out, e, q⟩ := w
      cases e; exact ⟨_, rfl, q⟩
    · rename_i o l
      split at h
      · rename_i g hg
        cases hc : g.cl with
        | false => rw [hc] at h; cases h
        | true =>
          rw [hc] at h
          cases h
          obtain ⟨h1, h2⟩ := segOp_clean hg hc
          obtain ⟨⟨s', K', go⟩, _⟩ := segOp_ok hS.ok (SGok.refl s True) hg h2
          have e := mixS_eq K'
          rw [mixS_nil h1] at e
          subst e
          exact go l _ w
      · cases h
theorem runR_ok (hS : Spec C F) : ∀ (n : Nat) {x : X}, WK C F (runR C F n x) Q → WK C F x Q
  | 0, _, w => w
  | n + 1, x, w => by
    have w : WK C F (match stepR C F x with | some y => runR C F n y | none => x) Q := w
    split at w
    · rename_i y hy; exact stepR_ok hS hy (runR_ok hS n w)
    · exact w
variable [hS : Spec C F] {γ : Type} {A : γ → Out → Prop} {v cur : γ}
theorem K.run (w : cur = v → WK C F (R C F x) (A v)) : KV C F A v x cur := ⟨fun e => runR_ok hS _ (w e)⟩
end
section
variable {C : Cfg} {F : Fns} {x y : X} {Q : Out → Prop}
variable {γ : Type} {A : γ → Out → Prop} {v cur : γ}
/-- what is told, otherwise -/
theorem K.e {cur' : γ} (he : cur = cur') (w : KV C F A v x cur') : KV C F A v x cur := ⟨fun e => w.w (he ▸ e)⟩

end
section
variable {C : Cfg} {F : Fns} {x y : X} {Q : Out → Prop}
variable [hS : Spec C F] {γ : Type} {A : γ → Out → Prop} {v cur : γ}
/-! a choice of ways -/
def cndB (C : Cfg) (x : X) : Option Bool := match x.p with | .code (.cond y _ _) => (match evalO C x.s.tm y with | .bool b => some b | _ => none) | _ => none
def putC (y : Operand) (s : St) (b : Bool) : St := match y with | .tmp i => s.put i (.bool b) | _ => s
theorem putC_ok {y : Operand} {s : St} {b : Bool} (hb : evalO C s.tm y = .bool b) : putC y s b = s := by
  cases y with
  | tmp i =>
    have hg : s.tm.get i = some (.bool b) := by
      unfold evalO at hb
      simp only at hb
      cases hg2 : s.tm.get i with
      | none => rw [hg2] at hb; cases hb
      | some u => rw [hg2] at hb; simp only at hb; rw [hb]
    exact St.put_eq rfl hg
  | _ => rfl
def cndY (x : X) (b : Bool) : X := match x.p with | .code (.cond y c d) => ⟨.code (bif b then c else d), x.k, putC y x.s b⟩ | _ => x
end
section
variable {C : Cfg} {F : Fns} {x y : X} {Q : Out → Prop}
variable {γ : Type} {A : γ → Out → Prop} {v cur : γ}
theorem cnd_ok {b : Bool} (h : cndB C x = some b) (w : WK C F (cndY x b) Q) : WK C F x Q := by
  obtain ⟨p, k, s⟩ := x
  unfold cndB at h
  split at h
  · rename_i y c d hp
    simp only at hp
    subst hp
    split at h
    · rename_i b' hb
      cases h
      simp only at hb
      have w : WK C F ⟨.code (bif b then c else d), k, putC y s b⟩ Q := w
      rw [putC_ok hb] at w
      show W C F (.cond y c d) s _
      refine W.cond b hb (fun e => ?_) (fun e => ?_)
      · subst e; exact w
      · subst e; exact w
    · cases h
  · cases h
end
section
variable {C : Cfg} {F : Fns} {x y : X} {Q : Out → Prop}
variable [hS : Spec C F] {γ : Type} {A : γ → Out → Prop} {v cur : γ}
theorem K.s (b : Bool) (h1 : b = true → KV C F A v (cndY (R C F x) true) cur) (h0 : b = false → KV C F A v (cndY (R C F x) false) cur) (h : cndB C (R C F x) = some b := by kernel_rfl) : KV C F A v x cur := by
  refine K.run fun e => cnd_ok h ?_
  cases b with
  | true => exact (h1 rfl).w e
  | false => exact (h0 rfl).w e
/-- .. where the answer is told by the same choice -/
theorem K.z {β : Type} (g : β → γ) {b : Bool} {p q : β} (h1 : b = true → KV C F A v (cndY (R C F x) true) (g p)) (h0 : b = false → KV C F A v (cndY (R C F x) false) (g q)) (h : cndB C (R C F x) = some b := by kernel_rfl) : KV C F A v x (g (bif b then p else q)) := by
  refine K.run fun e => cnd_ok h ?_
  cases b with
  | true => exact (h1 rfl).w e
  | false => exact (h0 rfl).w e
/-- .. that is known -/
theorem K.t (w : KV C F A v (cndY (R C F x) true) cur) (h : cndB C (R C F x) = some true := by kernel_rfl) : KV C F A v x cur := K.run fun e => cnd_ok h (w.w e)
theorem K.f (w : KV C F A v (cndY (R C F x) false) cur) (h : cndB C (R C F x) = some false := by kernel_rfl) : KV C F A v x cur := K.run fun e => cnd_ok h (w.w e)
theorem K.b {b b' : Bool} (hv : b = b') (w : KV C F A v (cndY (R C F x) b') cur) (h : cndB C (R C F x) = some b := by kernel_rfl) : KV C F A v x cur := by
  subst hv; exact K.run fun e => cnd_ok h (w.w e)

/-! guarded operations -/
def sgR (C : Cfg) (F : Fns) (m : Nat) (x : X) : Option SG := match x.p with | .ops ops l => segN C F ops (takeN l m) ⟨x.s, [], True, true⟩ | _ => none
def sdR (C : Cfg) (F : Fns) (m : Nat) (x : X) : Option Prop := match sgR C F m x with | some g => some g.sd | none => none
def sgY (C : Cfg) (F : Fns) (m : Nat) (x : X) (t : St) : X :=
  match x.p with
  | .ops ops l => ⟨.ops ops (dropN l m), x.k, match sgR C F m x with | some g => mixS t g | none => t⟩
  | _ => x
theorem sg_ok {m : Nat} {sd : Prop} (hs : sd) (w : ∀ t, WK C F (sgY C F m x t) Q) (h : sdR C F m x = some sd) : WK C F x Q := by
  refine WK.gi hS.ok 0 m sd hs (fun t => ?_) ?_
  · have := w t
    obtain ⟨p, k, s⟩ := x
    cases p <;> exact this
  · obtain ⟨p, k, s⟩ := x
    cases p <;> exact h
theorem K.im (m : Nat) (sd : Prop) (hs : sd) (w : ∀ t, KV C F A v (sgY C F m (R C F x) t) cur) (h : sdR C F m (R C F x) = some sd := by kernel_rfl) : KV C F A v x cur := K.run fun e => sg_ok hs (fun t => (w t).w e) h
theorem K.i (sd : Prop) (hs : sd) (w : ∀ t, KV C F A v (sgY C F 999 (R C F x) t) cur) (h : sdR C F 999 (R C F x) = some sd := by kernel_rfl) : KV C F A v x cur := K.im 999 sd hs w h
theorem K.g (w : ∀ t, KV C F A v (sgY C F 999 (R C F x) t) cur) (h : sdR C F 999 (R C F x) = some True := by kernel_rfl) : KV C F A v x cur := K.im 999 True trivial w h
/-! an operation whose answer is known otherwise -/
def opR (C : Cfg) (x : X) : Option OR := match x.p with | .ops ops l => opIn C ops l x.s | _ => none
end
section
variable {C : Cfg} {F : Fns} {x y : X} {Q : Out → Prop}
variable {γ : Type} {A : γ → Out → Prop} {v cur : γ}
theorem op_ok {y : OR} {u : AV} {h' : Heap} (hy : y = some (u, h')) (w : WK C F (nextX x u h') Q) (h : opR C x = some y) : WK C F x Q := by
  obtain ⟨p, k, s⟩ := x
  cases p with
  | code c => cases h
  | ops ops l => exact WO.opk hy h w
end
section
variable {C : Cfg} {F : Fns} {x y : X} {Q : Out → Prop}
variable [hS : Spec C F] {γ : Type} {A : γ → Out → Prop} {v cur : γ}
theorem K.o {y : OR} {u : AV} {h' : Heap} (hy : y = some (u, h')) (w : KV C F A v (nextX (R C F x) u h') cur) (h : opR C (R C F x) = some y := by kernel_rfl) : KV C F A v x cur := K.run fun e => op_ok hy (w.w e) h
theorem K.q {y : Heap → OR} {u : AV} (hy : ∀ h, y h = some (u, h)) (w : KV C F A v (nextX (R C F x) u (R C F x).s.h) cur) (h : opR C (R C F x) = some (y (R C F x).s.h) := by kernel_rfl) : KV C F A v x cur := K.o (hy _) w h

/-! elements of own rows -/
end
section
variable {C : Cfg} {F : Fns} {x y : X} {Q : Out → Prop}
variable {γ : Type} {A : γ → Out → Prop} {v cur : γ}
theorem ia_ok {t e id off es len cap : Nat} {ex : Bool} {i : Nat} (hi : i < len) (w : WK C F (nextX x (.ptrO id (Nat.add off (Nat.mul i (sizeT C e)))) x.s.h) Q) (hu : C.P.underlying t = some (.slice e)) (hk : knownT C e = true)
    (h : opR C x = some (keep x.s.h (opIndexAddr C t (.slO id off es len cap ex) (.int .i64 ((i : Nat) : Int))))) : WK C F x Q := by
  refine op_ok (y := keep x.s.h (opIndexAddr C t (.slO id off es len cap ex) (.int .i64 ((i : Nat) : Int)))) ?_ w h
  unfold opIndexAddr
  show keep _ (match C.P.underlying t with
    | some (.array n e) => _
    | some (.slice e) => bif Nat.ble (Nat.succ i) len && knownT C e then some (.ptrO id (Nat.add off (Nat.mul i (sizeT C e)))) else none
    | _ => none) = _
  rw [hu]
  simp only [hk, show Nat.ble (Nat.succ i) len = true from Nat.ble_eq_true_of_le hi]
  rfl
end
section
variable {C : Cfg} {F : Fns} {x y : X} {Q : Out → Prop}
variable [hS : Spec C F] {γ : Type} {A : γ → Out → Prop} {v cur : γ}
def cellsO (h : Heap) (id : Nat) : Option (List AV) := match h.get id with | some b => bif b.kind.isRow then some b.cells else none | none => none
/-- an element's address, and the element -/
theorem K.ix (t e id off es len cap : Nat) (ex : Bool) {i : Nat} {cs : List AV} {u : AV} (hi : i < len) (hl : ∀ h, cellsO h id = some cs → opLoad C h e (.ptrO id (Nat.add off (Nat.mul i (sizeT C e)))) = some u)
    (w : KV C F A v (nextX (nextX (R C F x) (.ptrO id (Nat.add off (Nat.mul i (sizeT C e)))) (R C F x).s.h) u (R C F x).s.h) cur) (hu : C.P.underlying t = some (.slice e) := by kernel_rfl) (hk : knownT C e = true := by kernel_rfl)
    (h : opR C (R C F x) = some (keep (R C F x).s.h (opIndexAddr C t (.slO id off es len cap ex) (.int .i64 ((i : Nat) : Int)))) := by kernel_rfl)
    (hc : cellsO (R C F x).s.h id = some cs := by kernel_rfl)
    (h2 : opR C (nextX (R C F x) (.ptrO id (Nat.add off (Nat.mul i (sizeT C e)))) (R C F x).s.h) = some (keep (R C F x).s.h (opLoad C (R C F x).s.h e (.ptrO id (Nat.add off (Nat.mul i (sizeT C e)))))) := by kernel_rfl) : KV C F A v x cur := by
  refine K.run fun q => ia_ok hi (op_ok (y := keep (R C F x).s.h (opLoad C (R C F x).s.h e (.ptrO id (Nat.add off (Nat.mul i (sizeT C e)))))) ?_ (w.w q) h2) hu hk h
  rw [hl _ hc]
  rfl
end
section
variable {C : Cfg} {F : Fns} {x y : X} {Q : Out → Prop}
variable {γ : Type} {A : γ → Out → Prop} {v cur : γ}
theorem cellsO_at {h : Heap} {id off n : Nat} {cs : List AV} (hc : cellsO h id = some cs) : cellsAt h id off n = partN cs off n := by
  unfold cellsO at hc
  unfold cellsAt
  split at hc
  · rename_i b hb
    rw [hb]
    cases hk : b.kind.isRow with
    | false => rw [hk] at hc; cases hc
    | true => rw [hk] at hc; cases hc; simp only [hk, cond_true]
  · cases hc
end
section
variable {C : Cfg} {F : Fns} {x y : X} {Q : Out → Prop}
variable [hS : Spec C F] {γ : Type} {A : γ → Out → Prop} {v cur : γ}
theorem bytes_nth {s : Str} {i : Nat} (hi : i < s.length) : partN (bytesCells s) i 1 = some [.int .u8 (((byteAt s ((i : Nat) : Int)).toNat : Nat) : Int)] := by
  have len : ∀ s : Str, (bytesCells s).length = s.length := by
    intro s; induction s with
    | nil => rfl
    | cons a s ih => show (bytesCells s).length + 1 = _; rw [ih]; rfl
  have dr : ∀ (s : Str) (i : Nat), (bytesCells s).drop i = bytesCells (s.drop i) := by
    intro s; induction s with
    | nil => intro i; cases i <;> rfl
    | cons a s ih => intro i; cases i with
      | zero => rfl
      | succ i => exact ih i
  unfold partN
  simp only [lenN_eq, takeN_eq, dropN_eq]
  rw [show Nat.ble (Nat.add i 1) (bytesCells s).length = true from Nat.ble_eq_true_of_le (by rw [len]; show i + 1 ≤ _; omega)]
  rw [dr, List.drop_eq_getElem_cons hi]
  unfold byteAt
  rw [show (((i : Nat) : Int)).toNat = i from rfl, List.getD_eq_getElem?_getD, List.getElem?_eq_getElem hi]
  rfl

/-! calls -/
def callR (C : Cfg) (x : X) : Option (FuncId × List AV) := match x.p with | .ops ops l => callIn C ops l x.s | _ => none
theorem K.c {g : FuncId} {args : List AV} {u : AV} (hc : ∀ h, F.call g args h none = some (.val u h none)) (w : KV C F A v (nextX (R C F x) u (R C F x).s.h) cur) (h : callR C (R C F x) = some (g, args) := by kernel_rfl) : KV C F A v x cur := K.run fun e => WK.c 0 hc (w.w e) h
theorem K.ch {g : FuncId} {args : List AV} {u : AV} {h1 h' : Heap} (hc : F.call g args h1 none = some (.val u h' none)) (w : KV C F A v (nextX (R C F x) u h') cur) (h : callR C (R C F x) = some (g, args) := by kernel_rfl) (he : (R C F x).s.h = h1 := by kernel_rfl) : KV C F A v x cur := K.run fun e => WK.ch 0 hc (w.w e) h he
/-- .. over one block of the caller's -/
theorem K.co {f : FuncId} {j g el ver : Nat} {wh : Bool} {cs cs' rest : List AV} {u : AV} (hc : ∀ h, h.get j = some (bk g el wh ver cs) → F.call f (.ptrO j 0 :: rest) h none = some (.val u (h.set j (bk g el wh (Nat.succ ver) cs')) none))
    (w : KV C F A v (nextX (R C F x) u ((R C F x).s.h.set j (bk g el wh (Nat.succ ver) cs'))) cur) (h : callR C (R C F x) = some (f, .ptrO j 0 :: rest) := by kernel_rfl) (hg : (R C F x).s.h.get j = some (bk g el wh ver cs) := by kernel_rfl) : KV C F A v x cur :=
  K.ch (hc _ hg) w h rfl
/-- a value is an equal one -/
theorem K.p (i : Nat) {u u' : AV} (hv : u = u') (w : KV C F A v ((R C F x).put i u') cur) (h : (R C F x).s.tm.get i = some u := by kernel_rfl) : KV C F A v x cur := K.run fun e => WK.put hv h (w.w e)

/-- so many small steps -/
theorem K.st (n : Nat) (w : KV C F A v (goN C F n (R C F x)) cur) (h : okX C F n (R C F x) = true := by kernel_rfl) : KV C F A v x cur := K.run fun e => goN_ok h (w.w e)

/-! the end -/
def retR (C : Cfg) (fn : Func) (x : X) : Option AV := bif isRet x && (x.s.ds.isEmpty && x.s.pn.isNone) then retV C fn x.s else none
theorem K.r {fn : Func} {v cur : AV} (h : retR C fn (R C F x) = some cur := by kernel_rfl) : KV C F (RetQ C F fn) v x cur := K.run fun e => WK.r 0 e.symm h
/-- over one block of the caller's: the answer, and what the block holds -/
def RetO2 (C : Cfg) (F : Fns) (fn : Func) (el : Nat) (wh : Bool) (p : AV × List AV) : Out → Prop := RetO C F fn p.1 0 el wh p.2
def retO (C : Cfg) (fn : Func) (x : X) : Option AV := bif isRet x && (x.s.ds.isEmpty && x.s.pn.isNone) then retW C fn x.s else none
def verX (x : X) : Nat := match x.s.h.get 0 with | some b => b.ver | none => 0
theorem K.ro {fn : Func} {el : Nat} {wh : Bool} {v cur : AV × List AV} (h : retO C fn (R C F x) = some cur.1 := by kernel_rfl) (hz : (R C F x).s.h.get 0 = some (bk 0 el wh (verX (R C F x)) cur.2) := by kernel_rfl) : KV C F (RetO2 C F fn el wh) v x cur := by
  refine K.run fun e => ?_
  subst e
  unfold retO at h
  cases hb : (isRet (R C F x) && ((R C F x).s.ds.isEmpty && (R C F x).s.pn.isNone)) with
  | false => rw [hb] at h; cases h
  | true =>
    rw [hb] at h
    simp only [cond_true] at h
    simp only [Bool.and_eq_true] at hb
    obtain ⟨h1, h2, h3⟩ := hb
    have hd : ((R C F x).s.ds, (R C F x).s.pn) = ([], none) := by
      rw [List.isEmpty_iff] at h2
      rw [Option.isNone_iff_eq_none] at h3
      rw [h2, h3]
    generalize verX (R C F x) = ver at hz
    generalize R C F x = y at h hz h1 hd
    have q := RetO.k (F := F) rfl rfl hd h hz
    have q' := RetO.kn (F := F) rfl rfl hd h hz
    obtain ⟨p, k, s⟩ := y
    unfold isRet at h1
    split at h1
    · rename_i hp; simp only at hp; subst hp; exact W.ret (unw_ret k q)
    · rename_i hp; simp only at hp; subst hp
      split at h1
      · rename_i hk; simp only at hk; subst hk; exact W.skip q'
      · cases h1
    · cases h1

/-! loops -/
def big : Nat := 9223372036854775808
theorem K.l {α : Type} (len : Nat) (HD : St → Nat → α → St) (P : Nat → α → Prop) (G : Nat → α → γ) (a : α) (hl : len < big) (hp : P 0 a)
    (hb : ∀ i a Rn, NX len i (fun a' => P (i + 1) a' ∧ G (i + 1) a' = v) (trimX (R C F x) (HD (baseX (R C F x)) i a).h) (HD (baseX (R C F x)) (i + 1)) Rn → i ≤ len → P i a → KV C F A v ⟨.code (bodyX (R C F x)), .lp Rn :: (R C F x).k, HD (baseX (R C F x)) i a⟩ (G i a))
    (h : loopX (R C F x) = true := by kernel_rfl) (h0 : baseX (R C F x) = HD (baseX (R C F x)) 0 a := by kernel_rfl) (hT : C.trim = true := by kernel_rfl) (hL : Nat.ble big C.loops = true := by kernel_rfl) : KV C F A v x (G 0 a) :=
  K.run fun e => WK.l hT len (HD (baseX (R C F x))) (fun i a => P i a ∧ G i a = v) a (Nat.lt_of_lt_of_le hl (Nat.le_of_ble_eq_true hL)) ⟨hp, e⟩ (fun i a Rn N hi hP => (hb i a Rn N hi hP.1).w hP.2) h h0
theorem K.n {α : Type} {len i : Nat} {P : α → Prop} {G : α → γ} {T : St → St} {H : α → St} {Rn : St → Prop} (N : NX len i (fun a' => P a' ∧ G a' = v) T H Rn) (a : α) (hi : i < len) (hp : P a)
    (hs : T (R C F x).s = H a := by kernel_rfl) (hr : lpOf (R C F x) = Rn := by kernel_rfl) (h : endX (R C F x) = true := by kernel_rfl) : KV C F A v x (G a) :=
  K.run fun e => WK.n hr h (N.go _ a hi ⟨hp, e⟩ hs)
/-- a counter -/
def ctr (c : Nat) (B : St) (i : Nat) (_ : Unit) : St := B.put c (.int .i64 ((i : Nat) : Int))
/-- a loop with a counter alone: its answer from round i on, where so many rounds are left -/
theorem K.lc {β : Type} (g : β → γ) (c len : Nat) (f : Nat → Nat → β) (hl : len < big)
    (h1 : ∀ i Rn, NX len i (fun (_ : Unit) => g (f (i + 1) (len - (i + 1))) = v) (trimX (R C F x) (ctr c (baseX (R C F x)) i ()).h) (ctr c (baseX (R C F x)) (i + 1)) Rn → i < len → KV C F A v ⟨.code (bodyX (R C F x)), .lp Rn :: (R C F x).k, ctr c (baseX (R C F x)) i ()⟩ (g (f i (len - (i + 1) + 1))))
    (h0 : ∀ Rn, KV C F A v ⟨.code (bodyX (R C F x)), .lp Rn :: (R C F x).k, ctr c (baseX (R C F x)) len ()⟩ (g (f len 0)))
    (h : loopX (R C F x) = true := by kernel_rfl) (hz : baseX (R C F x) = ctr c (baseX (R C F x)) 0 () := by kernel_rfl) (hT : C.trim = true := by kernel_rfl) (hL : Nat.ble big C.loops = true := by kernel_rfl) : KV C F A v x (g (f 0 len)) := by
  refine K.l (α := Unit) len (ctr c) (fun _ _ => True) (fun i _ => g (f i (len - i))) () hl trivial (fun i a Rn N hi _ => ?_) h hz hT hL
  rcases Nat.lt_or_ge i len with hlt | hge
  · have e : len - i = len - (i + 1) + 1 := by omega
    rw [e]
    exact h1 i Rn ⟨fun s a h2 h3 h4 => N.go s a h2 ⟨trivial, h3⟩ h4⟩ hlt
  · obtain rfl : i = len := by omega
    rw [Nat.sub_self]
    exact h0 Rn
theorem wrap_succ {i n : Nat} (h : i < n) (hn : n ≤ 9223372036854775807) : wrapF .i64 (((i : Nat) : Int) + 1) = ((i + 1 : Nat) : Int) := by
  unfold wrapF
  have : inR64 (((i : Nat) : Int) + 1) = true := by
    show inR64 (((i + 1 : Nat)) : Int) = true
    exact Nat.ble_eq_true_of_le (by omega)
  simp only [this, cond_true]
  rfl
theorem K.nc (c : Nat) {len i : Nat} {T : St → St} {H : Unit → St} {Rn : St → Prop} (N : NX len i (fun (_ : Unit) => cur = v) T H Rn) (hl : len < big) (hi : i < len)
    (hg : (R C F x).s.tm.get c = some (.int .i64 (wrapF .i64 (((i : Nat) : Int) + 1))) := by kernel_rfl)
    (hs : T ((R C F x).s.put c (.int .i64 ((i + 1 : Nat) : Int))) = H () := by kernel_rfl) (hr : lpOf (R C F x) = Rn := by kernel_rfl) (h : endX (R C F x) = true := by kernel_rfl) : KV C F A v x cur := by
  refine K.run fun e => WK.n hr h (N.go _ () hi e ?_)
  rw [St.put_eq (v' := .int .i64 ((i + 1 : Nat) : Int)) (by rw [wrap_succ hi (by unfold big at hl; omega)]) hg] at hs
  exact hs
/-- a counter that does not begin with none -/
def ctrO (o c : Nat) (B : St) (i : Nat) (_ : Unit) : St := B.put c (.int .i64 ((o + i : Nat) : Int))
theorem K.lo {β : Type} (g : β → γ) (o c len : Nat) (f : Nat → Nat → β) (hl : len < big)
    (h1 : ∀ i Rn, NX len i (fun (_ : Unit) => g (f (i + 1) (len - (i + 1))) = v) (trimX (R C F x) (ctrO o c (baseX (R C F x)) i ()).h) (ctrO o c (baseX (R C F x)) (i + 1)) Rn → i < len → KV C F A v ⟨.code (bodyX (R C F x)), .lp Rn :: (R C F x).k, ctrO o c (baseX (R C F x)) i ()⟩ (g (f i (len - (i + 1) + 1))))
    (h0 : ∀ Rn, KV C F A v ⟨.code (bodyX (R C F x)), .lp Rn :: (R C F x).k, ctrO o c (baseX (R C F x)) len ()⟩ (g (f len 0)))
    (h : loopX (R C F x) = true := by kernel_rfl) (hz : baseX (R C F x) = ctrO o c (baseX (R C F x)) 0 () := by kernel_rfl) (hT : C.trim = true := by kernel_rfl) (hL : Nat.ble big C.loops = true := by kernel_rfl) : KV C F A v x (g (f 0 len)) := by
  refine K.l (α := Unit) len (ctrO o c) (fun _ _ => True) (fun i _ => g (f i (len - i))) () hl trivial (fun i a Rn N hi _ => ?_) h hz hT hL
  rcases Nat.lt_or_ge i len with hlt | hge
  · have e : len - i = len - (i + 1) + 1 := by omega
    rw [e]
    exact h1 i Rn ⟨fun s a h2 h3 h4 => N.go s a h2 ⟨trivial, h3⟩ h4⟩ hlt
  · obtain rfl : i = len := by omega
    rw [Nat.sub_self]
    exact h0 Rn
theorem K.nco (o c : Nat) {len i : Nat} {T : St → St} {H : Unit → St} {Rn : St → Prop} (N : NX len i (fun (_ : Unit) => cur = v) T H Rn) (hl : o + len < big) (hi : i < len)
    (hg : (R C F x).s.tm.get c = some (.int .i64 (wrapF .i64 (((o + i : Nat) : Int) + 1))) := by kernel_rfl)
    (hs : T ((R C F x).s.put c (.int .i64 ((o + (i + 1) : Nat) : Int))) = H () := by kernel_rfl) (hr : lpOf (R C F x) = Rn := by kernel_rfl) (h : endX (R C F x) = true := by kernel_rfl) : KV C F A v x cur := by
  refine K.run fun e => WK.n hr h (N.go _ () hi e ?_)
  rw [St.put_eq (v' := .int .i64 ((o + (i + 1) : Nat) : Int)) (by rw [wrap_succ (n := o + len) (by omega) (by unfold big at hl; omega)]; rfl) hg] at hs
  exact hs
/-- a loop's test -/
def ltB (i n : Nat) : Bool := decide (((i : Nat) : Int) < ((n : Nat) : Int))
theorem ltB_t {i n : Nat} (h : i < n) : ltB i n = true := decide_eq_true (by omega)
theorem ltB_f {n : Nat} : ltB n n = false := decide_eq_false (by omega)
theorem lt_of_ltB {i n : Nat} (h : ltB i n = true) : i < n := by have := of_decide_eq_true h; omega
theorem ix {α : Type} {i : Nat} {l : List α} (h : i < l.length) : Ix ((i : Nat) : Int) l := ⟨by omega, by omega⟩
theorem K.w1 {i len : Nat} (hi : i < len) (w : KV C F A v (cndY (R C F x) true) cur) (h : cndB C (R C F x) = some (ltB i len) := by kernel_rfl) : KV C F A v x cur := K.b (ltB_t hi) w h
theorem K.w0 (len : Nat) (w : KV C F A v (cndY (R C F x) false) cur) (h : cndB C (R C F x) = some (ltB len len) := by kernel_rfl) : KV C F A v x cur := K.b ltB_f w h
theorem ltB_o {o n : Nat} : ltB (o + (n - o)) n = false := decide_eq_false (by omega)
theorem K.w0o (o len : Nat) (w : KV C F A v (cndY (R C F x) false) cur) (h : cndB C (R C F x) = some (ltB (o + (len - o)) len) := by kernel_rfl) : KV C F A v x cur := K.b ltB_o w h
theorem K.wbo (o len : Nat) (b : Bool) (w : KV C F A v (cndY (R C F x) false) cur) (h : cndB C (R C F x) = some (bif ltB (o + (len - o)) len then b else false) := by kernel_rfl) : KV C F A v x cur := K.b (by rw [ltB_o]; rfl) w h
/-- .. with something else -/
theorem K.wa {β : Type} (g : β → γ) {i len : Nat} {b : Bool} {p q : β} (hi : i < len) (h1 : b = true → KV C F A v (cndY (R C F x) true) (g p)) (h0 : b = false → KV C F A v (cndY (R C F x) false) (g q)) (h : cndB C (R C F x) = some (bif ltB i len then b else false) := by kernel_rfl) : KV C F A v x (g (bif b then p else q)) := by
  refine K.run fun e => cnd_ok h ?_
  rw [ltB_t hi, cond_true]
  cases b with
  | true => exact (h1 rfl).w e
  | false => exact (h0 rfl).w e
theorem K.wb (len : Nat) (b : Bool) (w : KV C F A v (cndY (R C F x) false) cur) (h : cndB C (R C F x) = some (bif ltB len len then b else false) := by kernel_rfl) : KV C F A v x cur := K.b (by rw [ltB_f]; rfl) w h

/-! a region whose order is open -/
def dnR (C : Cfg) (F : Fns) (x : X) : Option DS := match x.p with | .code (.region _ o true) => regD C F o x.s | _ => none
def dsR (C : Cfg) (F : Fns) (x : X) : Option Prop := match dnR C F x with | some y => some y.sd | none => none
def dyR (C : Cfg) (F : Fns) (x : X) : X := match dnR C F x with | some y => skX x y.d.s | none => x
theorem dn_ok {sd : Prop} (hs : sd) (w : WK C F (dyR C F x) Q) (h : dsR C F x = some sd) : WK C F x Q := by
  unfold dsR at h
  unfold dyR at w
  split at h
  · rename_i y hy
    rw [hy] at w
    cases h
    obtain ⟨p, k, s⟩ := x
    unfold dnR at hy
    split at hy
    · rename_i id o hp
      simp only at hp
      subst hp
      refine regD_ok hS.ok hy hs ?_
      obtain ⟨out, e, q⟩ := w
      cases e; exact q
    · cases hy
  · cases h
theorem K.d (sd : Prop) (hs : sd) (w : KV C F A v (dyR C F (R C F x)) cur) (h : dsR C F (R C F x) = some sd := by kernel_rfl) : KV C F A v x cur := K.run fun e => dn_ok hs (w.w e) h
def gI (n : Int) : AV := .int .i64 n
def gB (b : Bool) : AV := .bool b
end
end
end Go.Abs
namespace Go.Abs
noncomputable section
open Go
/-! ## Own rows of plain data, handed out -/
section
variable {w : World} {F : Nat → Prop}
theorem relC_split : ∀ (x y : List AV) (b o : Nat), RelC w F (x ++ y) b o → RelC w F x b o ∧ RelC w F y b (o + x.length)
  | [], y, b, o, h => ⟨by unfold RelC; trivial, h⟩
  | a :: x, y, b, o, h => by
    rw [List.cons_append] at h
    unfold RelC at h
    obtain ⟨h1, h2⟩ := relC_split x y b (o + 1) h.2
    refine ⟨by unfold RelC; exact ⟨h.1, h1⟩, ?_⟩
    rw [List.length_cons, show o + (x.length + 1) = o + 1 + x.length by omega]
    exact h2
theorem relC_el {t : PT} {b : Nat} : ∀ (l : List (El t)) (o : Nat), RelC w F (flatT t l) b o → ∀ i x, l[i]? = some x → RelC w F (avT t x) b (o + i * width t)
  | [], _, _, i, x, h => by simp at h
  | y :: l, o, hr, i, x, h => by
    have hr : RelC w F (avT t y ++ flatT t l) b o := hr
    obtain ⟨h1, h2⟩ := relC_split _ _ _ _ hr
    cases i with
    | zero => simp at h; subst h; simpa using h1
    | succ i =>
      have := relC_el l _ h2 i x (by simpa using h)
      rw [avT_len, show o + width t + i * width t = o + (i + 1) * width t by rw [Nat.succ_mul]; omega] at this
      exact this
theorem slR_T {t : PT} {l : List (El t)} {μ : Map} {v : Value} (h : Rel w F (.slR (flatT t l) 0 l.length l.length false) μ v) : Rel w F (.slT t l false) μ v := by
  unfold Rel at h
  obtain ⟨b, o, a, c, h1, h2, h3, h4, h5, h6, h7⟩ := h
  exact mk_slT (.inr ⟨b, o, a, c, h1, h2, h4, fun e => (by cases e), fun hc => h6 hc, relC_el l o h7⟩)
end
/-- less told of the answer -/
theorem CallOk.weak {C : Cfg} {f : FuncId} {args : List AV} {h h' : Heap} {pn pn' : Option AV} {v v' : AV} (K : CallOk C f args h pn (.val v h' pn')) (hv : ∀ (w : World) (F : Nat → Prop) (μ : Map) (u : Value), Rel w F v μ u → Rel w F v' μ u) : CallOk C f args h pn (.val v' h' pn') := by
  intro w F μ vs G H r
  rcases K w F μ vs G H r with ⟨u, w', F', μ', a, h1, hc, e, N, H', ra⟩ | ⟨hc, hgo⟩
  · cases e
    exact .inl ⟨u, w', F', μ', v', _, hc, rfl, N, H', hv _ _ _ _ ra⟩
  · refine .inr ⟨hc, fun kind cs hk hp => ?_⟩
    obtain ⟨en, fr, cs', w', F', μ', N, H', R, P', st, h1, h2, h3, hend⟩ := hgo kind cs hk hp
    obtain ⟨u, e, ra⟩ := hend
    exact ⟨en, fr, cs', w', F', μ', N, H', R, P', st, h1, h2, h3, u, e, hv _ _ _ _ ra⟩
theorem freeze_cel (h : Heap) (n : Nat) : ∀ l : List Cel, freezeL (freezeA h (n + 1)) (avL l) = some (avL l)
  | [] => rfl
  | c :: l => by
    cases c <;> (show (match freezeA h (n + 1) _, freezeL (freezeA h (n + 1)) (avL l) with | some a, some as => some (a :: as) | _, _ => none) = _; rw [freeze_cel h n l]; rfl)
theorem freezeL_app {f : AV → Option AV} : ∀ {x y x' y' : List AV}, freezeL f x = some x' → freezeL f y = some y' → freezeL f (x ++ y) = some (x' ++ y')
  | [], _, x', _, hx, hy => by cases hx; exact hy
  | a :: x, y, x', y', hx, hy => by
    rw [freezeL_cons] at hx
    rw [List.cons_append, freezeL_cons]
    split at hx
    · rename_i b bs h1 h2
      cases hx
      rw [h1, freezeL_app h2 hy]; rfl
    · cases hx
theorem freeze_flat (h : Heap) (n : Nat) (t : PT) : ∀ l : List (El t), freezeL (freezeA h (n + 1)) (flatT t l) = some (flatT t l)
  | [] => rfl
  | x :: l => freezeL_app (freeze_cel h n (cellsT t x)) (freeze_flat h n t l)
theorem partN_all {cs : List AV} {n : Nat} (hn : n = cs.length) : partN cs 0 n = some cs := by
  unfold partN
  rw [lenN_eq, show Nat.ble (Nat.add 0 n) cs.length = true from Nat.ble_eq_true_of_le (by show 0 + n ≤ _; omega)]
  simp only [cond_true, takeN_eq, dropN_eq, List.drop_zero]
  rw [hn, List.take_length]
theorem freeze_slO {h : Heap} {n id es : Nat} {t : PT} {l : List (El t)} {b : Bool} (hc : cellsO h id = some (flatT t l)) (he : es = width t) : freezeA h (n + 2) (.slO id 0 es l.length l.length b) = some (.slR (flatT t l) 0 l.length l.length false) := by
  rw [freezeA_succ]
  simp only
  rw [cellsO_at hc, partN_all (by rw [flatT_len, he]; rfl)]
  simp only
  rw [freeze_flat]
theorem appendA_new {h : Heap} {e es bytes id : Nat} {t : PT} {l : List (El t)} {b : Bool} (hl : l ≠ []) (hr : roomOk l.length bytes = true) (hw : es = width t) (hc : cellsO h id = some []) :
    appendA h e es bytes (.slO id 0 es 0 0 true) (.slT t l b) = some (.slO h.next 0 es l.length l.length false, h.new e false (flatT t l)) := by
  have hn : 0 < l.length := by cases l with | nil => exact absurd rfl hl | cons a l => exact Nat.succ_pos _
  unfold appendA
  simp only [lenA, allA]
  rw [← hw, Nat.beq_refl]
  simp only [cond_true]
  unfold appendO
  rw [Nat.beq_refl]
  simp only [Bool.not_true, cond_false]
  rw [show Nat.ble (Nat.add 0 l.length) 0 = false by
    cases hb : Nat.ble (Nat.add 0 l.length) 0 with
    | false => rfl
    | true => have := Nat.le_of_ble_eq_true hb; have h2 : 0 + l.length ≤ 0 := this; omega]
  simp only [cond_false]
  have e0 : Nat.add 0 l.length = l.length := Nat.zero_add _
  rw [e0, hr]
  simp only [Bool.not_true, cond_false]
  rw [cellsO_at hc, show partN [] 0 (Nat.mul 0 es) = some [] by rw [show Nat.mul 0 es = 0 from Nat.zero_mul es]; rfl]
  rfl
section
variable {C : Cfg} {F : Fns} {x : X} {Q : Out → Prop} [hS : Spec C F] {γ : Type} {A : γ → Out → Prop} {v cur : γ}
/-- what came in, in a row of one's own -/
theorem K.ap (t e id es bytes : Nat) {pt : PT} {l : List (El pt)} {b : Bool} (hl : l ≠ []) (hr : roomOk l.length bytes = true)
    (w : KV C F A v (nextX (R C F x) (.slO (R C F x).s.h.next 0 es l.length l.length false) ((R C F x).s.h.new e false (flatT pt l))) cur)
    (hu : C.P.underlying t = some (.slice e) := by kernel_rfl) (hz : (zeroCells C e).isSome = true := by kernel_rfl) (hm : notMade C #[t, t] = true := by kernel_rfl) (hs : sizeT C e = es := by kernel_rfl) (hbt : bytesT C e = bytes := by kernel_rfl) (hw : es = width pt := by kernel_rfl) (hc : cellsO (R C F x).s.h id = some [] := by kernel_rfl)
    (h : opR C (R C F x) = some (builtinA C (R C F x).s.h .append #[t, t] [.slO id 0 es 0 0 true, .slT pt l b]) := by kernel_rfl) : KV C F A v x cur := by
  refine K.o (y := builtinA C (R C F x).s.h .append #[t, t] [.slO id 0 es 0 0 true, .slT pt l b]) ?_ w h
  show biAppend C (R C F x).s.h #[t, t] (.slO id 0 es 0 0 true) (.slT pt l b) = _
  unfold biAppend
  rw [hm]
  simp only [Bool.not_true, cond_false]
  show (match C.P.underlying t with | some (.slice e) => bif (zeroCells C e).isSome then appendA (R C F x).s.h e (sizeT C e) (bytesT C e) (.slO id 0 es 0 0 true) (.slT pt l b) else none | _ => none) = _
  rw [hu]
  simp only [hz, cond_true, hs, hbt]
  exact appendA_new hl hr hw hc
/-- both ways of a bool, in the midst of a region -/
theorem K.sp {β : Type} (g : β → γ) (i : Nat) {b : Bool} {p q : β} (h1 : b = true → KV C F A v ((R C F x).put i (.bool true)) (g p)) (h0 : b = false → KV C F A v ((R C F x).put i (.bool false)) (g q)) (h : (R C F x).s.tm.get i = some (.bool b) := by kernel_rfl) : KV C F A v x (g (bif b then p else q)) := by
  refine K.run fun e => ?_
  cases b with
  | true => exact WK.put rfl h ((h1 rfl).w e)
  | false => exact WK.put rfl h ((h0 rfl).w e)
/-- an element's address, by a small step -/
theorem K.xi (pt : PT) (l : List (El pt)) (k : Int) (hk : Ix k l) (w : KV C F A v (nextX (R C F x) (.ptrR (avT pt (elAt pt l k.toNat)) 0) (R C F x).s.h) cur) (h : idxX C F 0 (R C F x) = some ⟨pt, l, k⟩ := by kernel_rfl) : KV C F A v x cur :=
  K.run fun e => WK.i 0 pt l k hk.1 hk.2 (w.w e) h
/-- a call whose answer is known, by a small step -/
theorem K.kr (g : FuncId) (args : List AV) (u : AV) (P : Prop) (hP : P) (w : KV C F A v (nextX (R C F x) u (R C F x).s.h) cur) (h : callR C (R C F x) = some (g, args) := by kernel_rfl) (hr : rsAt C (R C F x).s.h g args = some (u, some P) := by kernel_rfl) : KV C F A v x cur :=
  K.ch (hS.ok g args u (some P) _ hr hP) w h rfl
/-- what is handed out is frozen -/
theorem K.rf {fn : Func} {v1 v cur : AV} (hz : freezeA (R C F x).s.h deep v1 = some cur) (h : retO C fn (R C F x) = some v1 := by kernel_rfl) : KV C F (RetQ C F fn) v x cur := by
  refine K.run fun e => ?_
  subst e
  unfold retO at h
  cases hb : (isRet (R C F x) && ((R C F x).s.ds.isEmpty && (R C F x).s.pn.isNone)) with
  | false => rw [hb] at h; cases h
  | true =>
    rw [hb] at h
    simp only [cond_true] at h
    simp only [Bool.and_eq_true] at hb
    obtain ⟨h1, h2, h3⟩ := hb
    have hd : ((R C F x).s.ds, (R C F x).s.pn) = ([], none) := by
      rw [List.isEmpty_iff] at h2
      rw [Option.isNone_iff_eq_none] at h3
      rw [h2, h3]
    generalize R C F x = y at h hz h1 hd
    have hr : retV C fn y.s = some cur := by
      unfold retW at h
      unfold retV
      split at h
      · rename_i vs hvs; cases h; exact hz
      · cases h
    have q := RetQ.k (F := F) rfl hd hr
    have q' := RetQ.kn (F := F) rfl hd hr
    obtain ⟨p, k, s⟩ := y
    unfold isRet at h1
    split at h1
    · rename_i hp; simp only at hp; subst hp; exact W.ret (unw_ret k q)
    · rename_i hp; simp only at hp; subst hp
      split at h1
      · rename_i hk; simp only at hk; subst hk; exact W.skip q'
      · cases h1
    · cases h1
end
end
end Go.Abs
namespace Go.Abs
noncomputable section
open Go
/-! ## Rows of one's own that grow in a loop: memory is a variable -/
structure Sim (g : Nat) (h h' : Heap) : Prop where
  next : h'.next = h.next
  back : ∀ j c', h'.get j = some c' → ∃ c, h.get j = some c ∧ c'.grp = c.grp ∧ c'.el = c.el
  other : ∀ j c, h.get j = some c → c.grp ≠ g → h'.get j = some c
theorem Sim.set {h : Heap} {id : Nat} {b c : Blk} (hb : h.get id = some b) (hg : c.grp = b.grp) (he : c.el = b.el) : Sim b.grp h (h.set id c) where
  next := rfl
  back := fun j x e => by
    rw [get_set] at e
    split at e
    · rename_i hj; cases e; subst hj; exact ⟨b, hb, hg, he⟩
    · exact ⟨x, e, rfl, rfl⟩
  other := fun j x e hne => by
    rw [get_set]
    split
    · rename_i hj; subst hj; rw [hb] at e; cases e; exact absurd rfl hne
    · exact e
theorem Sim.kill {h : Heap} {id g lo hi n : Nat} : Sim g h (killAll h id g lo hi n) where
  next := next_killAll ..
  back := fun j x e => by
    rw [get_killAll] at e
    split at e
    · cases hh : h.get j with
      | none => rw [hh] at e; cases e
      | some c =>
        rw [hh] at e
        cases e
        refine ⟨c, rfl, ?_, ?_⟩ <;> (unfold killB; split <;> rfl)
    · exact ⟨x, e, rfl, rfl⟩
  other := fun j x e hne => by
    rw [get_killAll]
    split
    · rw [e]; show some (killB g lo hi x) = some x; unfold killB; rw [if_neg (fun hh => hne hh.1)]
    · exact e
theorem Sim.trans {g : Nat} {a b c : Heap} (p : Sim g a b) (q : Sim g b c) : Sim g a c where
  next := q.next.trans p.next
  back := fun j x e => by
    obtain ⟨y, e1, g1, l1⟩ := q.back j x e
    obtain ⟨z, e2, g2, l2⟩ := p.back j y e1
    exact ⟨z, e2, g1.trans g2, l1.trans l2⟩
  other := fun j x e hne => q.other j x (p.other j x e hne) hne
theorem Sim.ks {h : Heap} {id id' lo hi n : Nat} {b c : Blk} (hb : h.get id = some b) (hg : c.grp = b.grp) (he : c.el = b.el) : Sim b.grp h (killAll (h.set id c) id' b.grp lo hi n) := (Sim.set hb hg he).trans Sim.kill
/-! ## Rows of one's own, whose numbers lie from lo to bd -/
def OwnR (h : Heap) (v : AV) (e size : Nat) (cs : List AV) (n lo bd : Nat) : Prop :=
  lo ≤ bd ∧ bd ≤ h.next ∧ ((v = .nils ∧ n = 0 ∧ cs = []) ∨ ∃ id b, v = .slO id 0 size n n false ∧ (lo ≤ id ∧ id < bd ∧ lo ≤ b.grp ∧ b.grp < bd) ∧ h.get id = some b ∧ b.cells = cs ∧ b.frz = false ∧ b.kind = .row ∧ b.el = e ∧ cs.length = n * size ∧ 0 < n)
section
variable {h h' : Heap} {v x : AV} {e size n lo bd bytes : Nat} {cs nw : List AV} {s : St}
theorem OwnR.nil (h : Heap) (e size : Nat) {lo : Nat} (hl : lo ≤ h.next) : OwnR h .nils e size [] 0 lo h.next := ⟨hl, Nat.le_refl _, .inl ⟨rfl, rfl, rfl⟩⟩
theorem OwnR.new {el : Nat} {wh : Bool} {c : List AV} (O : OwnR h v e size cs n lo bd) : OwnR (h.new el wh c) v e size cs n lo bd := by
  obtain ⟨hl, hb, O⟩ := O
  refine ⟨hl, Nat.le_succ_of_le hb, ?_⟩
  rcases O with O | ⟨id, b, h1, h2, h3, h4⟩
  · exact .inl O
  · exact .inr ⟨id, b, h1, h2, by unfold Heap.new; rw [Heap.get_add, if_neg (by omega)]; exact h3, h4⟩
theorem OwnR.set {j : Nat} {b' : Blk} (hj : j < lo ∨ bd ≤ j) (O : OwnR h v e size cs n lo bd) : OwnR (h.set j b') v e size cs n lo bd := by
  obtain ⟨hl, hb, O⟩ := O
  refine ⟨hl, hb, ?_⟩
  rcases O with O | ⟨id, b, h1, h2, h3, h4⟩
  · exact .inl O
  · exact .inr ⟨id, b, h1, h2, by rw [Heap.get_set, if_neg (by omega)]; exact h3, h4⟩
theorem OwnR.grow (O : OwnR h v e size cs n lo bd) : OwnR h v e size cs n lo h.next := by
  obtain ⟨hl, hb, O⟩ := O
  refine ⟨by omega, Nat.le_refl _, ?_⟩
  rcases O with O | ⟨id, b, h1, h2, h3⟩
  · exact .inl O
  · exact .inr ⟨id, b, h1, by omega, h3⟩
/-- what others append to leaves it as it is -/
def Keeps2 (h h' : Heap) (lo : Nat) : Prop := h.next ≤ h'.next ∧ ∀ j b, h.get j = some b → j < h.next → b.grp < lo → h'.get j = some b
theorem OwnR.keep {lo' : Nat} (k : Keeps2 h h' lo') (hl : bd ≤ lo') (O : OwnR h v e size cs n lo bd) : OwnR h' v e size cs n lo bd := by
  obtain ⟨h0, hb, O⟩ := O
  refine ⟨h0, Nat.le_trans hb k.1, ?_⟩
  rcases O with O | ⟨id, b, h1, h2, h3, h4⟩
  · exact .inl O
  · exact .inr ⟨id, b, h1, h2, k.2 id b h3 (by omega) (by omega), h4⟩
theorem append_ownr (O : OwnR h v e size cs n lo bd) (hx : lenA x = some 1) (hf : allA h size 1 x = some nw) (hl : nw.length = size) (hr : roomOk (n + 1) bytes = true) :
    ∃ h', appendA h e size bytes v x = some (.slO h.next 0 size (n + 1) (n + 1) false, h') ∧ OwnR h' (.slO h.next 0 size (n + 1) (n + 1) false) e size (cs ++ nw) (n + 1) lo h'.next ∧ Keeps2 h h' lo ∧ h.next < h'.next := by
  obtain ⟨h0, hb, O⟩ := O
  rcases O with ⟨rfl, rfl, rfl⟩ | ⟨id, b, rfl, h2, h3, rfl, h5, h6, rfl, h8, h9⟩
  · refine ⟨h.new e false nw, ?_, ⟨?_, Nat.le_refl _, .inr ⟨h.next, newBlk h.next e false nw, rfl, ⟨?_, Nat.lt_succ_self _, ?_, Nat.lt_succ_self _⟩, ?_, rfl, rfl, rfl, rfl, by simpa using hl, by omega⟩⟩, ⟨Nat.le_succ _, ?_⟩, Nat.lt_succ_self _⟩
    · unfold appendA
      rw [hx]
      simp only [hf]
      rw [show roomOk 1 bytes = true from hr]
      rfl
    · show lo ≤ h.next + 1; omega
    · omega
    · show lo ≤ h.next; omega
    · unfold Heap.new; rw [Heap.get_add, if_pos rfl]
    · intro j c e1 e2 _
      unfold Heap.new; rw [Heap.get_add, if_neg (by omega)]; exact e1
  · have hA : appendA h b.el size bytes (.slO id 0 size n n false) x = appendFork h id 0 n size 1 b (b.cells ++ nw) := by
      unfold appendA
      rw [hx]
      simp only [hf]
      unfold appendO
      rw [show Nat.beq size size = true from Nat.beq_refl _]
      simp only [Bool.not_true, cond_false]
      have hn : Nat.ble (Nat.add n 1) n = false := by
        cases hh : Nat.ble (Nat.add n 1) n with
        | false => rfl
        | true => have : n + 1 ≤ n := Nat.le_of_ble_eq_true hh; omega
      rw [hn]
      simp only [cond_false]
      rw [show roomOk (Nat.add n 1) bytes = true from hr]
      simp only [Bool.not_true, cond_false]
      have hc : cellsAt h id 0 (Nat.mul n size) = some b.cells := by
        unfold cellsAt
        rw [h3]
        simp only [h6]
        show (bif true then partN b.cells 0 (n * size) else none) = _
        unfold partN
        simp only [cond_true, lenN_eq, takeN_eq, dropN_eq]
        rw [show Nat.ble (Nat.add 0 (n * size)) b.cells.length = true from Nat.ble_eq_true_of_le (by rw [h8]; show 0 + n * size ≤ _; omega)]
        simp [← h8]
      rw [hc]
      simp only [h3, h5, Bool.false_or]
      rw [show Nat.beq b.el b.el = true from Nat.beq_refl _]
      rfl
    have S : Sim b.grp h (killAll (h.set id { b with forked := true, ver := Nat.succ b.ver }) h.next b.grp (Nat.add (Nat.add b.base 0) (Nat.mul n size)) (Nat.add (Nat.add (Nat.add b.base 0) (Nat.mul n size)) (Nat.mul 1 size)) h.next) := Sim.ks h3 rfl rfl
    refine ⟨_, hA, ⟨?_, Nat.le_refl _, .inr ⟨h.next, { cells := b.cells ++ nw, grp := b.grp, base := Nat.add b.base 0, forked := true, frz := false, ver := 0, el := b.el, whole := false, kind := .row }, rfl, ⟨by omega, ?_, h2.2.2.1, ?_⟩, ?_, rfl, rfl, rfl, rfl, ?_, Nat.succ_pos _⟩⟩, ⟨?_, ?_⟩, ?_⟩
    · rw [Heap.next_add, S.next]; show lo ≤ h.next + 1; omega
    · rw [Heap.next_add, S.next]; exact Nat.lt_succ_self _
    · rw [Heap.next_add, S.next]; show b.grp < h.next + 1; omega
    · rw [Heap.get_add, if_pos S.next.symm]
    · rw [List.length_append, h8, hl, Nat.succ_mul]
    · rw [Heap.next_add, S.next]; exact Nat.le_succ _
    · intro j c e1 e2 e3
      rw [Heap.get_add, if_neg (by rw [S.next]; omega)]
      exact S.other j c e1 (by omega)
    · rw [Heap.next_add, S.next]; exact Nat.lt_succ_self _
/-- what is handed out -/
def frzV (cs : List AV) (n : Nat) : AV := bif Nat.beq n 0 then .nils else .slR cs 0 n n false
theorem freeze_ownr {k : Nat} (O : OwnR h v e size cs n lo bd) (hf : freezeL (freezeA h k) cs = some cs) : freezeA h (k + 1) v = some (frzV cs n) := by
  obtain ⟨_, hb, O⟩ := O
  rcases O with ⟨rfl, rfl, rfl⟩ | ⟨id, b, rfl, h2, h3, rfl, h5, h6, rfl, h8, h9⟩
  · rfl
  · rw [freezeA_succ]
    simp only
    have hc : cellsAt h id 0 (Nat.mul n size) = some b.cells := by
      unfold cellsAt
      rw [h3]
      simp only [h6]
      show (bif true then partN b.cells 0 (n * size) else none) = _
      unfold partN
      simp only [cond_true, lenN_eq, takeN_eq, dropN_eq]
      rw [show Nat.ble (Nat.add 0 (n * size)) b.cells.length = true from Nat.ble_eq_true_of_le (by rw [h8]; show 0 + n * size ≤ _; omega)]
      simp [← h8]
    rw [hc]
    simp only [hf]
    cases n with
    | zero => omega
    | succ n => rfl
theorem freeze_T {k : Nat} {t : PT} {l : List (El t)} (O : OwnR h v e size (flatT t l) l.length lo bd) : freezeA h (k + 2) v = some (frzV (flatT t l) l.length) := freeze_ownr O (freeze_flat h k t l)
end
theorem frzV_T {w : World} {F : Nat → Prop} {t : PT} {l : List (El t)} {μ : Map} {v : Value} (h : Rel w F (frzV (flatT t l) l.length) μ v) : Rel w F (.slT t l false) μ v := by
  cases l with
  | nil =>
    have h : Rel w F .nils μ v := h
    unfold Rel at h
    exact mk_slT (.inl ⟨rfl, h⟩)
  | cons a l => exact slR_T h

/-! a load, a store, where the block is known -/
def loadB (C : Cfg) (b : Blk) (t : TypeId) (off : Nat) : Option AV := match (bif b.kind.isRow then partN b.cells off (sizeT C t) else none) with | some cs => mkT C t cs | none => none
theorem load_B {C : Cfg} {h : Heap} {id : Nat} {b : Blk} (hg : h.get id = some b) (t : TypeId) (off : Nat) : opLoad C h t (.ptrO id off) = loadB C b t off := by
  unfold opLoad readAt cellsAt loadB
  simp only [hg]
  rfl
def storeB (C : Cfg) (b : Blk) (t : TypeId) (off : Nat) (x : AV) : Option Blk :=
  bif (plainA x && knownT C t) && Nat.beq (lenN x.cells) (sizeT C t) then
    bif b.frz || !b.kind.isRow || !(Nat.ble (Nat.add off (lenN x.cells)) (lenN b.cells)) then none else
    bif b.forked then none else some { b with cells := setCells b.cells off x.cells, ver := Nat.succ b.ver } else none
theorem store_B {C : Cfg} {h : Heap} {id : Nat} {b b' : Blk} {t : TypeId} {off : Nat} {x : AV} (hg : h.get id = some b) (hs : storeB C b t off x = some b') : opStore C h t (.ptrO id off) x = some (.tup [], h.set id b') := by
  unfold opStore storeAt
  simp only [hg]
  unfold storeB at hs
  cases h1 : (plainA x && knownT C t) && Nat.beq (lenN x.cells) (sizeT C t) with
  | false => rw [h1] at hs; cases hs
  | true =>
    rw [h1] at hs
    simp only [cond_true] at hs ⊢
    cases h2 : b.frz || !b.kind.isRow || !(Nat.ble (Nat.add off (lenN x.cells)) (lenN b.cells)) with
    | true => rw [h2] at hs; cases hs
    | false =>
      rw [h2] at hs
      simp only [cond_false] at hs ⊢
      cases h3 : b.forked with
      | true => rw [h3] at hs; cases hs
      | false => rw [h3] at hs; simp only [cond_false] at hs ⊢; cases hs; rfl

/-! rules without the runner -/
section
variable {C : Cfg} {F : Fns} {x : X} {Q : Out → Prop} [hS : Spec C F] {γ : Type} {A : γ → Out → Prop} {v cur : γ}
theorem Z.R (w : KV C F A v (R C F x) cur) : KV C F A v x cur := K.run w.w
end
section
variable {C : Cfg} {F : Fns} {x : X} {Q : Out → Prop} {γ : Type} {A : γ → Out → Prop} {v cur : γ}
theorem Z.st (n : Nat) (w : KV C F A v (goN C F n x) cur) (h : okX C F n x = true := by kernel_rfl) : KV C F A v x cur := ⟨fun e => goN_ok h (w.w e)⟩
end
section
variable {C : Cfg} {F : Fns} {x : X} {Q : Out → Prop} [hS : Spec C F] {γ : Type} {A : γ → Out → Prop} {v cur : γ}
end
section
variable {C : Cfg} {F : Fns} {x : X} {Q : Out → Prop} {γ : Type} {A : γ → Out → Prop} {v cur : γ}
theorem Z.ld (t id off : Nat) {h1 : Heap} {b : Blk} {u : AV} (hg : h1.get id = some b) (w : KV C F A v (nextX x u x.s.h) cur) (hu : loadB C b t off = some u := by kernel_rfl)
    (h : opR C x = some (keep x.s.h (opLoad C x.s.h t (.ptrO id off))) := by kernel_rfl) (hh : x.s.h = h1 := by kernel_rfl) : KV C F A v x cur :=
  ⟨fun e => op_ok (y := keep x.s.h (opLoad C x.s.h t (.ptrO id off))) (by rw [hh, load_B hg, hu]; rfl) (w.w e) h⟩
end
section
variable {C : Cfg} {F : Fns} {x : X} {Q : Out → Prop} [hS : Spec C F] {γ : Type} {A : γ → Out → Prop} {v cur : γ}
end
section
variable {C : Cfg} {F : Fns} {x : X} {Q : Out → Prop} {γ : Type} {A : γ → Out → Prop} {v cur : γ}
theorem Z.so (t id off : Nat) {h1 : Heap} {b b' : Blk} {u : AV} (hg : h1.get id = some b) (w : KV C F A v (nextX x (.tup []) (h1.set id b')) cur) (hu : storeB C b t off u = some b' := by kernel_rfl)
    (h : opR C x = some (opStore C x.s.h t (.ptrO id off) u) := by kernel_rfl) (hh : x.s.h = h1 := by kernel_rfl) : KV C F A v x cur :=
  ⟨fun e => op_ok (y := opStore C x.s.h t (.ptrO id off) u) (by rw [hh, store_B hg hu]) (w.w e) h⟩
end
section
variable {C : Cfg} {F : Fns} {x : X} {Q : Out → Prop} [hS : Spec C F] {γ : Type} {A : γ → Out → Prop} {v cur : γ}
/-- what is handed out is frozen, out of memory that is known by a name -/
theorem K.rg {fn : Func} {v1 v cur : AV} {h1 : Heap} (hz : freezeA h1 deep v1 = some cur) (hh : (R C F x).s.h = h1 := by kernel_rfl) (h : retO C fn (R C F x) = some v1 := by kernel_rfl) : KV C F (RetQ C F fn) v x cur := K.rf (by rw [hh]; exact hz) h
/-- what is handed out lies in a block -/
theorem K.rc {fn : Func} {v1 v cur : AV} (a t id off : Nat) {h1 : Heap} {b : Blk} (hg : h1.get id = some b) (hz : freezeA h1 deep v1 = some cur) (hl : loadB C b t off = some v1 := by kernel_rfl) (hf : fn.results.toList = [.cell a t] := by kernel_rfl)
    (hr : (isRet (R C F x) && ((R C F x).s.ds.isEmpty && (R C F x).s.pn.isNone)) = true := by kernel_rfl) (ht : (R C F x).s.tm.get a = some (.ptrO id off) := by kernel_rfl) (hh : (R C F x).s.h = h1 := by kernel_rfl) : KV C F (RetQ C F fn) v x cur := by
  refine K.rf (v1 := v1) (by rw [hh]; exact hz) ?_
  unfold retO
  rw [hr, cond_true]
  unfold retW
  rw [hf, hh]
  have : resultsA C h1 (R C F x).s.tm [.cell a t] = some [v1] := by
    unfold resultsA
    simp only [ht, load_B hg, hl]
    rfl
  rw [this]
  rfl
/-- a call whose answer is known -/
theorem Z.kr (g : FuncId) (args : List AV) (u : AV) (P : Prop) (hP : P) (w : KV C F A v (nextX x u x.s.h) cur) (h : callR C x = some (g, args) := by kernel_rfl) (hr : rsAt C x.s.h g args = some (u, some P) := by kernel_rfl) : KV C F A v x cur :=
  ⟨fun e => WK.ch 0 (hS.ok g args u (some P) _ hr hP) (w.w e) h rfl⟩
end
section
variable {C : Cfg} {F : Fns} {x : X} {Q : Out → Prop} {γ : Type} {A : γ → Out → Prop} {v cur : γ}
theorem Z.xi (pt : PT) (l : List (El pt)) (k : Int) (hk : Ix k l) (w : KV C F A v (nextX x (.ptrR (avT pt (elAt pt l k.toNat)) 0) x.s.h) cur) (h : idxX C F 0 x = some ⟨pt, l, k⟩ := by kernel_rfl) : KV C F A v x cur :=
  ⟨fun e => WK.i 0 pt l k hk.1 hk.2 (w.w e) h⟩
end
section
variable {C : Cfg} {F : Fns} {x : X} {Q : Out → Prop} [hS : Spec C F] {γ : Type} {A : γ → Out → Prop} {v cur : γ}
theorem new_get (H : Heap) (el : Nat) (wh : Bool) (cs : List AV) : (H.new el wh cs).get H.next = some (bk H.next el wh 0 cs) := by unfold Heap.new; rw [Heap.get_add, if_pos rfl]; rfl
end
section
variable {C : Cfg} {F : Fns} {x : X} {Q : Out → Prop} {γ : Type} {A : γ → Out → Prop} {v cur : γ}
/-- one more, behind those of a row that grows -/
theorem Z.gr (t e size bytes : Nat) {H : Heap} {el : Nat} {wh : Bool} {v0 : AV} {cs nw : List AV} {n lo bd : Nat} (O : OwnR H v0 e size cs n lo bd) (hl : nw.length = size) (hr : roomOk (n + 1) bytes = true)
    (w : ∀ h', OwnR h' (.slO (Nat.succ H.next) 0 size (n + 1) (n + 1) false) e size (cs ++ nw) (n + 1) lo h'.next → Keeps2 (H.new el wh nw) h' lo → Nat.succ H.next < h'.next → KV C F A v (nextX x (.slO (Nat.succ H.next) 0 size (n + 1) (n + 1) false) h') cur)
    (hu : C.P.underlying t = some (.slice e) := by kernel_rfl) (hz : (zeroCells C e).isSome = true := by kernel_rfl) (hm : notMade C #[t, t] = true := by kernel_rfl) (hs : sizeT C e = size := by kernel_rfl) (hbt : bytesT C e = bytes := by kernel_rfl)
    (hh : x.s.h = H.new el wh nw := by kernel_rfl)
    (h : opR C x = some (builtinA C x.s.h .append #[t, t] [v0, .slO H.next 0 size 1 1 true]) := by kernel_rfl) : KV C F A v x cur := by
  have hf : allA (H.new el wh nw) size 1 (.slO H.next 0 size 1 1 true) = some nw := by
    show cellsAt _ _ _ _ = _
    unfold cellsAt
    rw [new_get]
    show (bif true then partN nw 0 (Nat.mul 1 size) else none) = _
    rw [cond_true]
    exact partN_all (by rw [hl]; exact Nat.one_mul _)
  obtain ⟨h', he, O', K', hn⟩ := append_ownr (x := .slO H.next 0 size 1 1 true) (bytes := bytes) (O.new (el := el) (wh := wh) (c := nw)) rfl hf hl hr
  refine ⟨fun q => op_ok (y := builtinA C x.s.h .append #[t, t] [v0, .slO H.next 0 size 1 1 true]) ?_ ((w h' O' K' hn).w q) h⟩
  rw [hh]
  show biAppend C (H.new el wh nw) #[t, t] v0 (.slO H.next 0 size 1 1 true) = _
  unfold biAppend
  rw [hm]
  simp only [Bool.not_true, cond_false]
  show (match C.P.underlying t with | some (.slice e) => bif (zeroCells C e).isSome then appendA (H.new el wh nw) e (sizeT C e) (bytesT C e) v0 (.slO H.next 0 size 1 1 true) else none | _ => none) = _
  rw [hu]
  simp only [hz, cond_true, hs, hbt]
  exact he
end
section
variable {C : Cfg} {F : Fns} {x : X} {Q : Out → Prop} [hS : Spec C F] {γ : Type} {A : γ → Out → Prop} {v cur : γ}
/-- a round's end, where new memory is kept -/
theorem trim_h {n0 A : Nat} {s : St} {k : Nat} {u : AV} (hg : (trimS n0 A s).tm.get k = some u) (hu : lowA n0 16 u = false) : (trimS n0 A s).h = s.h := by
  unfold trimS trim1 at hg ⊢
  simp only at hg ⊢
  cases Nat.beq s.h.next n0 with
  | true => rfl
  | false =>
    simp only [cond_false]
    cases ht : trimO n0 { n := s.n, tm := forgetT A s.n s.tm, h := s.h, ds := s.ds, pn := s.pn } with
    | false => rfl
    | true =>
      exfalso
      unfold trimO at ht
      simp only [Bool.and_eq_true] at ht
      rw [lowT_get _ ht.1 k u hg] at hu
      cases hu
/-- .. or where a block that is kept bears new memory -/
theorem trim_hb {n0 A : Nat} {s : St} {k j : Nat} {u : AV} {b : Blk} {h1 : Heap} (hh : s.h = h1) (hk : k < n0) (hg : h1.get k = some b) (hj : b.cells[j]? = some u) (hu : lowA n0 16 u = false) : (trimS n0 A s).h = s.h := by
  rw [← hh] at hg
  unfold trimS trim1
  simp only
  cases Nat.beq s.h.next n0 with
  | true => rfl
  | false =>
    simp only [cond_false]
    cases ht : trimO n0 { n := s.n, tm := forgetT A s.n s.tm, h := s.h, ds := s.ds, pn := s.pn } with
    | false => rfl
    | true =>
      exfalso
      unfold trimO at ht
      simp only [Bool.and_eq_true] at ht
      rw [lowL_get (lowB_get n0 ht.2.1 k b hk hg).1 j u hj] at hu
      cases hu
theorem low_slO {id off es n m n0 : Nat} {b : Bool} (h : n0 ≤ id) : lowA n0 16 (.slO id off es n m b) = false := by
  show Nat.ble (Nat.succ id) n0 = false
  cases hb : Nat.ble (Nat.succ id) n0 with
  | false => rfl
  | true => have := Nat.le_of_ble_eq_true hb; omega
end
section
variable {C : Cfg} {F : Fns} {x : X} {Q : Out → Prop} {γ : Type} {A : γ → Out → Prop} {v cur : γ}
/-- the next round: a counter, a value and memory are handed on -/
theorem Z.n (c : Nat) {α : Type} {len i : Nat} {P : α → Prop} {G : α → γ} {T : St → St} {HD : α → St} {Rn : St → Prop} (N : NX len i (fun a' => P a' ∧ G a' = v) T HD Rn) (a : α) (hl : len < big) (hi : i < len) (hp : P a) {n0 A' : Nat} (hT : T = trimS n0 A') {h' : Heap}
    (ht : (trimS n0 A' x.s).h = x.s.h) (hg : x.s.tm.get c = some (.int .i64 (wrapF .i64 (((i : Nat) : Int) + 1))) := by kernel_rfl)
    (hs : (⟨x.s.n, (trimS n0 A' (x.s.put c (.int .i64 ((i + 1 : Nat) : Int)))).tm, h', x.s.ds, x.s.pn⟩ : St) = HD a := by kernel_rfl) (hh : x.s.h = h' := by kernel_rfl) (hr : lpOf x = Rn := by kernel_rfl) (h : endX x = true := by kernel_rfl) : KV C F A v x (G a) := by
  refine ⟨fun e => WK.n hr h (N.go _ a hi ⟨hp, e⟩ ?_)⟩
  rw [St.put_eq (v' := .int .i64 ((i + 1 : Nat) : Int)) (by rw [wrap_succ hi (by unfold big at hl; omega)]) hg] at hs
  rw [hT, ← hs, ← hh, ← ht]
  rfl
end
section
variable {C : Cfg} {F : Fns} {x : X} {Q : Out → Prop} [hS : Spec C F] {γ : Type} {A : γ → Out → Prop} {v cur : γ}
end
end
end Go.Abs
namespace Go.Abs
noncomputable section
open Go
/-! ## A slice of one's own to which what came in is appended; its elements -/
/-- a row of one's own that holds these elements -/
structure RowU (h : Heap) (lo id : Nat) (t : PT) (l : List (El t)) (e : Nat) (b : Blk) : Prop where
  get : h.get id = some b
  cells : b.cells = flatT t l
  frz : b.frz = false
  kind : b.kind = .row
  el : b.el = e
  grp : lo ≤ b.grp
  ge : lo ≤ id
  lt : id < h.next
section
variable {h : Heap} {lo id e bytes : Nat} {t : PT} {l k : List (El t)} {b : Blk} {ex x : Bool}
theorem append_T (U : RowU h lo id t l e b) (hf : b.forked = false) (hr : roomOk (l.length + k.length) bytes = true) :
    ∃ id' ex' h' b', appendA h e (width t) bytes (.slO id 0 (width t) l.length l.length ex) (.slT t k x) = some (.slO id' 0 (width t) (l.length + k.length) (l.length + k.length) ex', h') ∧ RowU h' lo id' t (l ++ k) e b' ∧ (ex = true → b'.forked = false) ∧ ∀ j c, h.get j = some c → j < lo → c.grp < lo → h'.get j = some c := by
  have hlen : b.cells.length = l.length * width t := by rw [U.cells, flatT_len]
  have hlo : lo ≤ h.next := by have := U.ge; have := U.lt; omega
  have hA : appendA h e (width t) bytes (.slO id 0 (width t) l.length l.length ex) (.slT t k x) = appendO h e (width t) bytes id 0 (width t) l.length l.length ex k.length (flatT t k) := by
    unfold appendA
    simp only [lenA, allA]
    rw [Nat.beq_refl]
    rfl
  rw [hA]
  unfold appendO
  rw [Nat.beq_refl]
  simp only [Bool.not_true, cond_false]
  cases k with
  | nil =>
    rw [show Nat.ble (Nat.add l.length ([] : List (El t)).length) l.length = true from Nat.ble_eq_true_of_le (Nat.le_refl _)]
    simp only [cond_true]
    have hs : storeAt h id (Nat.add 0 (Nat.mul l.length (width t))) (flatT t []) = some (h.set id { b with cells := setCells b.cells (Nat.add 0 (Nat.mul l.length (width t))) [], ver := Nat.succ b.ver }) := by
      unfold storeAt
      rw [U.get]
      simp only
      rw [U.frz, U.kind, hf]
      rw [show Nat.ble (Nat.add (Nat.add 0 (Nat.mul l.length (width t))) (lenN (flatT t ([] : List (El t))))) (lenN b.cells) = true from Nat.ble_eq_true_of_le (by rw [lenN_eq, lenN_eq, hlen]; show 0 + l.length * width t + 0 ≤ _; omega)]
      rfl
    rw [hs]
    refine ⟨id, ex, _, { b with cells := setCells b.cells (Nat.add 0 (Nat.mul l.length (width t))) [], ver := Nat.succ b.ver }, rfl, ⟨by rw [Heap.get_set, if_pos rfl], ?_, U.frz, U.kind, U.el, U.grp, U.ge, U.lt⟩, fun _ => hf, ?_⟩
    · show setCells b.cells (Nat.add 0 (Nat.mul l.length (width t))) [] = _
      rw [setCells_eq _ _ _ (by rw [hlen]; show 0 + l.length * width t + 0 ≤ _; omega), List.append_nil, List.append_nil]
      show List.take _ _ ++ List.drop (_ + 0) _ = _
      rw [Nat.add_zero, List.take_append_drop, U.cells]
    · intro j c e1 e2 _
      rw [Heap.get_set, if_neg (by have := U.ge; omega)]; exact e1
  | cons a k =>
    rw [show Nat.ble (Nat.add l.length (a :: k).length) l.length = false by
      cases hh : Nat.ble (Nat.add l.length (a :: k).length) l.length with
      | false => rfl
      | true =>
        have h1 : l.length + (a :: k).length ≤ l.length := Nat.le_of_ble_eq_true hh
        rw [List.length_cons] at h1
        omega]
    simp only [cond_false]
    rw [show roomOk (Nat.add l.length (a :: k).length) bytes = true from hr]
    simp only [Bool.not_true, cond_false]
    have hc : cellsAt h id 0 (Nat.mul l.length (width t)) = some b.cells := by
      unfold cellsAt
      rw [U.get]
      simp only [U.kind]
      show (bif true then partN b.cells 0 (l.length * width t) else none) = _
      rw [cond_true]
      exact partN_all hlen.symm
    rw [hc]
    simp only
    have hfl : b.cells ++ flatT t (a :: k) = flatT t (l ++ a :: k) := by rw [U.cells]; unfold flatT; rw [List.flatMap_append]
    rw [hfl]
    cases ex with
    | true =>
      simp only [cond_true]
      refine ⟨h.next, false, h.new e false (flatT t (l ++ a :: k)), newBlk h.next e false (flatT t (l ++ a :: k)), rfl, ⟨?_, rfl, rfl, rfl, rfl, hlo, hlo, Nat.lt_succ_self _⟩, fun _ => rfl, ?_⟩
      · unfold Heap.new; rw [Heap.get_add, if_pos rfl]
      · intro j c e1 e2 _
        unfold Heap.new; rw [Heap.get_add, if_neg (by omega)]; exact e1
    | false =>
      simp only [cond_false]
      rw [U.get]
      simp only
      rw [U.frz, U.el, Nat.beq_refl]
      simp only [Bool.not_true, Bool.or_false, cond_false]
      have S : Sim b.grp h (killAll (h.set id { b with forked := true, ver := Nat.succ b.ver }) h.next b.grp (Nat.add (Nat.add b.base 0) (Nat.mul l.length (width t))) (Nat.add (Nat.add (Nat.add b.base 0) (Nat.mul l.length (width t))) (Nat.mul (a :: k).length (width t))) h.next) := Sim.ks U.get rfl rfl
      refine ⟨h.next, false, _, { cells := flatT t (l ++ a :: k), grp := b.grp, base := Nat.add b.base 0, forked := true, frz := false, ver := 0, el := b.el, whole := false, kind := .row }, rfl, ⟨by rw [Heap.get_add, if_pos S.next.symm], rfl, rfl, rfl, U.el, U.grp, hlo, ?_⟩, fun e => (by cases e), ?_⟩
      · rw [Heap.next_add, S.next]; exact Nat.lt_succ_self _
      · intro j c e1 e2 e3
        rw [Heap.get_add, if_neg (by rw [S.next]; omega)]
        exact S.other j c e1 (by have := U.grp; omega)
/-- part of an element -/
theorem flat_part : ∀ (l : List (El t)) (i k n : Nat), i < l.length → k + n ≤ width t → ((flatT t l).drop (i * width t + k)).take n = ((avT t (elAt t l i)).drop k).take n
  | [], i, k, n, h, _ => by cases h
  | a :: l, 0, k, n, _, hk => by
    show ((avT t a ++ flatT t l).drop (0 * width t + k)).take n = _
    rw [Nat.zero_mul, Nat.zero_add, List.drop_append_of_le_length (by rw [avT_len]; omega), List.take_append_of_le_length (by rw [List.length_drop, avT_len]; omega)]
    rfl
  | a :: l, i + 1, k, n, h, hk => by
    show ((avT t a ++ flatT t l).drop ((i + 1) * width t + k)).take n = _
    have e : (i + 1) * width t + k = (avT t a).length + (i * width t + k) := by rw [avT_len, Nat.succ_mul]; omega
    rw [e, List.drop_append]
    have h0 : (avT t a).drop ((avT t a).length + (i * width t + k)) = [] := List.drop_of_length_le (by omega)
    rw [h0, List.nil_append, show (avT t a).length + (i * width t + k) - (avT t a).length = i * width t + k by omega]
    exact flat_part l i k n (by simpa using h) hk
theorem load_row {C : Cfg} (U : RowU h lo id t l e b) {i k : Nat} {u : TypeId} (hi : i < l.length) (hk : Nat.ble (k + sizeT C u) (width t) = true) : loadB C b u (i * width t + k) = loadB C (bk 0 0 true 0 (avT t (elAt t l i))) u k := by
  have hk := Nat.le_of_ble_eq_true hk
  unfold loadB
  have hp : (bif b.kind.isRow then partN b.cells (i * width t + k) (sizeT C u) else none) = partN (avT t (elAt t l i)) k (sizeT C u) := by
    rw [U.kind]
    show (bif true then partN b.cells (i * width t + k) (sizeT C u) else none) = _
    rw [cond_true]
    unfold partN
    rw [lenN_eq, lenN_eq, U.cells, flatT_len, avT_len]
    have hmul : i * width t + width t ≤ l.length * width t := by
      rw [← Nat.succ_mul]; exact Nat.mul_le_mul_right _ hi
    rw [show Nat.ble (Nat.add (i * width t + k) (sizeT C u)) (l.length * width t) = true from Nat.ble_eq_true_of_le (by show i * width t + k + sizeT C u ≤ _; omega)]
    rw [show Nat.ble (Nat.add k (sizeT C u)) (width t) = true from Nat.ble_eq_true_of_le hk]
    simp only [cond_true, takeN_eq, dropN_eq]
    rw [flat_part l i k _ hi hk]
  rw [hp]
  rfl
end
section
variable {C : Cfg} {F : Fns} {x : X} {Q : Out → Prop} [hS : Spec C F] {γ : Type} {A : γ → Out → Prop} {v cur : γ}
end
section
variable {C : Cfg} {F : Fns} {x : X} {Q : Out → Prop} {γ : Type} {A : γ → Out → Prop} {v cur : γ}
/-- part of an element of a row -/
theorem Z.lr (u id off : Nat) {h1 : Heap} {lo e : Nat} {t : PT} {l : List (El t)} {b : Blk} {i k : Nat} {val : AV} (U : RowU h1 lo id t l e b) (hi : i < l.length) (ho : off = i * width t + k) (w : KV C F A v (nextX x val x.s.h) cur)
    (hk : Nat.ble (k + sizeT C u) (width t) = true := by kernel_rfl) (hu : loadB C (bk 0 0 true 0 (avT t (elAt t l i))) u k = some val := by kernel_rfl)
    (h : opR C x = some (keep x.s.h (opLoad C x.s.h u (.ptrO id off))) := by kernel_rfl) (hh : x.s.h = h1 := by kernel_rfl) : KV C F A v x cur := by
  refine Z.ld u id off (h1 := h1) U.get w ?_ h hh
  rw [ho, load_row U hi hk, hu]
end
section
variable {C : Cfg} {F : Fns} {x : X} {Q : Out → Prop} [hS : Spec C F] {γ : Type} {A : γ → Out → Prop} {v cur : γ}
end
section
variable {C : Cfg} {F : Fns} {x : X} {Q : Out → Prop} {γ : Type} {A : γ → Out → Prop} {v cur : γ}
/-- the address of an element of a row -/
theorem Z.ia (t e id off es len cap : Nat) (ex : Bool) {i : Nat} (hi : i < len) (w : KV C F A v (nextX x (.ptrO id (Nat.add off (Nat.mul i (sizeT C e)))) x.s.h) cur) (hu : C.P.underlying t = some (.slice e) := by kernel_rfl) (hk : knownT C e = true := by kernel_rfl)
    (h : opR C x = some (keep x.s.h (opIndexAddr C t (.slO id off es len cap ex) (.int .i64 ((i : Nat) : Int)))) := by kernel_rfl) : KV C F A v x cur :=
  ⟨fun q => ia_ok hi (w.w q) hu hk h⟩
end
section
variable {C : Cfg} {F : Fns} {x : X} {Q : Out → Prop} [hS : Spec C F] {γ : Type} {A : γ → Out → Prop} {v cur : γ}
end
section
variable {C : Cfg} {F : Fns} {x : X} {Q : Out → Prop} {γ : Type} {A : γ → Out → Prop} {v cur : γ}
/-- both ways of a bool -/
theorem Z.sp {β : Type} (g : β → γ) (i : Nat) {b : Bool} {p q : β} (h1 : b = true → KV C F A v (x.put i (.bool true)) (g p)) (h0 : b = false → KV C F A v (x.put i (.bool false)) (g q)) (h : x.s.tm.get i = some (.bool b) := by kernel_rfl) : KV C F A v x (g (bif b then p else q)) := by
  refine ⟨fun e => ?_⟩
  cases b with
  | true => exact WK.put rfl h ((h1 rfl).w e)
  | false => exact WK.put rfl h ((h0 rfl).w e)
end
section
variable {C : Cfg} {F : Fns} {x : X} {Q : Out → Prop} [hS : Spec C F] {γ : Type} {A : γ → Out → Prop} {v cur : γ}
end
section
variable {C : Cfg} {F : Fns} {x : X} {Q : Out → Prop} {γ : Type} {A : γ → Out → Prop} {v cur : γ}
/-- a value is an equal one -/
theorem Z.p (i : Nat) {u u' : AV} (hv : u = u') (w : KV C F A v (x.put i u') cur) (h : x.s.tm.get i = some u := by kernel_rfl) : KV C F A v x cur := ⟨fun e => WK.put hv h (w.w e)⟩
end
section
variable {C : Cfg} {F : Fns} {x : X} {Q : Out → Prop} [hS : Spec C F] {γ : Type} {A : γ → Out → Prop} {v cur : γ}
theorem trim_self {A' : Nat} {s : St} : (trimS s.h.next A' s).h = s.h := by
  unfold trimS trim1
  simp only [Nat.beq_refl, cond_true]
theorem trim_same {n0 A' : Nat} {s : St} (hn : s.h.next = n0) : (trimS n0 A' s).h = s.h := by subst hn; exact trim_self
/-- a loop over memory that is a variable -/
theorem K.lh {α : Type} (len : Nat) (HD : St → Nat → α → St) (P : Nat → α → Prop) (G : Nat → α → γ) (a : α) (hl : len < big) (hp : P 0 a)
    (hb : ∀ i a Rn, NX len i (fun a' => P (i + 1) a' ∧ G (i + 1) a' = v) (trimX (R C F x) (HD (baseX (R C F x)) i a).h) (HD (baseX (R C F x)) (i + 1)) Rn → i ≤ len → P i a → KV C F A v ⟨.code (bodyX (R C F x)), .lp Rn :: (R C F x).k, HD (baseX (R C F x)) i a⟩ (G i a))
    (h : loopX (R C F x) = true := by kernel_rfl) (h0 : (⟨(baseX (R C F x)).n, (baseX (R C F x)).tm, (R C F x).s.h, (baseX (R C F x)).ds, (baseX (R C F x)).pn⟩ : St) = HD (baseX (R C F x)) 0 a := by kernel_rfl) (hT : C.trim = true := by kernel_rfl) (hL : Nat.ble big C.loops = true := by kernel_rfl) : KV C F A v x (G 0 a) :=
  K.run fun e => WK.l hT len (HD (baseX (R C F x))) (fun i a => P i a ∧ G i a = v) a (Nat.lt_of_lt_of_le hl (Nat.le_of_ble_eq_true hL)) ⟨hp, e⟩ (fun i a Rn N hi hP => (hb i a Rn N hi hP.1).w hP.2) h (by
    rw [← h0]
    have e1 : (baseX (R C F x)).h = (R C F x).s.h := trim_self
    rw [← e1])
end
/-! a drawn region: an operation that changes memory; the end -/
section
variable {C : Cfg} {F : Fns} {ops : Array Oper} {j : Nat} {l : List Oper} {d : Dr} {pl : List Nat} {Q : Out → Prop}
theorem WE.opm {y : OR} {x : AV} {h' : Heap} (hy : y = some (x, h')) (w : WE C F ops (Nat.succ j) (dropN l 1) (putD l j d x h') pl Q) (h1 : opIn C ops l d.s = some y := by kernel_rfl) (hc : isC C .m l = true := by kernel_rfl) : WE C F ops j l d pl Q := by
  intro hp hm
  cases l with
  | nil => cases h1
  | cons o l =>
    have hq : cls C o.op = .m := beq_cls.1 hc
    obtain ⟨hw, he⟩ := opIn_oper (F := F) h1 hy
    obtain ⟨d2, e, q⟩ := w (fun p hp' => by have := hp p hp'; omega) ⟨fun m hm' hmp => by
      rcases List.mem_cons.1 hm' with rfl | hm'
      · exact absurd (hp _ hmp) (Nat.lt_irrefl _)
      · exact hm.1 m hm' hmp, fun m hm' => by
      rcases List.mem_cons.1 hm' with rfl | hm'
      · exact Nat.lt_succ_self _
      · have := hm.2 m hm'; omega⟩
    refine ⟨d2, ?_, q⟩
    rw [drawOps_cons, hw]
    have hstep : drawStep C F j o d = some (.inl (putD (o :: l) j d x h')) := by
      unfold drawStep
      rw [hq]
      simp only [he, set_h]
      rfl
    simp only [hstep]
    rw [dropN_eq] at e
    exact e
def msD (C : Cfg) (F : Fns) (ops : Array Oper) (j : Nat) (l : List Oper) (d : Dr) : List (Nat × Heap × Heap) := match drawOps C F ops (predsOf ops.toList []) j l d with | some (.inl d') => d'.ms | _ => []
def finK (C : Cfg) (F : Fns) (ops : Array Oper) (j : Nat) (l : List Oper) (d : Dr) (n : Nat) (h0 : Heap) : Bool := match drawOps C F ops (predsOf ops.toList []) j l d with
  | some (.inl d') => d'.reads.all fun r => (d'.ms.all fun m => isPred (predsOf ops.toList []) m.1 r.1 || isPred (predsOf ops.toList []) r.1 m.1 || (Nat.ble (Nat.succ r.2) n && flatOk h0 r.2)) && (d'.made.all fun m => !Nat.beq m.2 r.2 || isPred (predsOf ops.toList []) m.1 r.1)
  | _ => false
/-- the blocks below n are as at the beginning all the while -/
theorem WE.fink (n : Nat) (h0 : Heap) {ms : List (Nat × Heap × Heap)} (hk : ∀ m ∈ ms, ∀ id, id < n → m.2.1.get id = h0.get id ∧ m.2.2.get id = h0.get id) (q : Q (.nrm (finD C F ops j l d))) (hm : msD C F ops j l d = ms := by kernel_rfl) (h : finK C F ops j l d n h0 = true := by kernel_rfl) : WE C F ops j l d pl Q := by
  intro _ _
  unfold finK at h
  unfold finD at q
  unfold msD at hm
  split at h
  · rename_i d' hr
    rw [hr] at q hm
    refine ⟨d', hr, ?_, q⟩
    rw [List.all_eq_true] at h ⊢
    intro r hrr
    have h2 := h r hrr
    unfold readOk
    rw [Bool.and_eq_true] at h2 ⊢
    refine ⟨?_, h2.2⟩
    have h3 := h2.1
    rw [List.all_eq_true] at h3 ⊢
    intro m hmm
    have h4 := h3 m hmm
    simp only [Bool.or_eq_true, Bool.and_eq_true] at h4 ⊢
    rcases h4 with h4 | ⟨h4, h5⟩
    · exact .inl h4
    · refine .inr ?_
      obtain ⟨k1, k2⟩ := hk m (by rw [← hm]; exact hmm) r.2 (Nat.le_of_ble_eq_true h4)
      have h6 := sameBlk_flat h5
      unfold sameBlk at h6 ⊢
      rw [k1, k2]
      exact h6
  · cases h
/-- an operation that reads a block that is told -/
def putRd (l : List Oper) (j : Nat) (d : Dr) (x : AV) (id : Nat) : Dr := { s := putIn l d.s x d.s.h, made := d.made, reads := (j, id) :: d.reads, ms := d.ms }
theorem WE.ldB (t id off : Nat) {h1 : Heap} {b : Blk} {u : AV} (hg : h1.get id = some b) (w : WE C F ops (Nat.succ j) (dropN l 1) (putRd l j d u id) pl Q) (hu : loadB C b t off = some u := by kernel_rfl) (h : opIn C ops l d.s = some (keep d.s.h (opLoad C d.s.h t (.ptrO id off))) := by kernel_rfl)
    (hh : d.s.h = h1 := by kernel_rfl) (hc : isC C .l l = true := by kernel_rfl) (hr : readsIn C l d.s = some id := by kernel_rfl) : WE C F ops j l d pl Q := by
  intro hp hm
  cases l with
  | nil => cases h
  | cons o l =>
    have hq : cls C o.op = .l := beq_cls.1 hc
    obtain ⟨hw, he⟩ := opIn_oper (F := F) h (by rw [hh, load_B hg, hu]; rfl)
    obtain ⟨d2, e, q⟩ := w (fun p hp' => by have := hp p hp'; omega) ⟨hm.1, fun m hm' => by have := hm.2 m hm'; omega⟩
    refine ⟨d2, ?_, q⟩
    rw [drawOps_cons, hw]
    have hr : readId C d.s.tm o.op = some id := hr
    have hstep : drawStep C F j o d = some (.inl (putRd (o :: l) j d u id)) := by
      unfold drawStep
      rw [hq]
      simp only [he, hr]
      rw [← hh]
      rfl
    simp only [hstep]
    rw [dropN_eq] at e
    exact e
theorem WE.av (k : Nat) (w : WE C F ops (Nat.add j (lenN (takeN l k))) (dropN l k) (advD C F ops j k l d) pl Q) (h : advDB C F ops j k l d = true := by kernel_rfl) : WE C F ops j l d pl Q := WE.adv k rfl h w
theorem WE.mono {Q' : Out → Prop} (hq : ∀ o, Q o → Q' o) (w : WE C F ops j l d pl Q) : WE C F ops j l d pl Q' := by
  intro hp hm
  obtain ⟨d', e, r, q⟩ := w hp hm
  exact ⟨d', e, r, hq _ q⟩
end
section
variable {C : Cfg} {F : Fns} {x : X} [hS : Spec C F] {γ : Type} {A : γ → Out → Prop} {v cur : γ}
def drB (C : Cfg) (x : X) : Bool := match x.p with | .code (.region _ o true) => drawOk C o | _ => false
end
section
variable {C : Cfg} {F : Fns} {x : X} {γ : Type} {A : γ → Out → Prop} {v cur : γ}
/-- a drawn region, told op by op -/
theorem Z.dr (w : WE C F (opsX x) 0 (opsX x).toList (dr0 x.s) [] (fun o => match o with | .nrm s => KV C F A v (skX x s) cur | _ => False)) (h : drB C x = true := by kernel_rfl) : KV C F A v x cur := by
  refine ⟨fun e => ?_⟩
  have h1 : drX C F 0 x = true := h
  refine WK.d 0 (WE.mono (fun o q => ?_) w) h1
  cases o with
  | nrm s => exact q.w e
  | ext i s => exact q
  | gto i s => exact q
  | ret s => exact q
  | pan u s => exact q
end
section
variable {C : Cfg} {F : Fns} {x : X} [hS : Spec C F] {γ : Type} {A : γ → Out → Prop} {v cur : γ}
/-- a call whose answer is known, nothing asked -/
theorem Z.kn (g : FuncId) (args : List AV) (u : AV) (w : KV C F A v (nextX x u x.s.h) cur) (h : callR C x = some (g, args) := by kernel_rfl) (hr : rsAt C x.s.h g args = some (u, none) := by kernel_rfl) : KV C F A v x cur :=
  ⟨fun e => WK.ch 0 (hS.ok g args u none _ hr trivial) (w.w e) h rfl⟩
end
end
end Go.Abs
namespace Go.Abs
noncomputable section
open Go
/-! ## A program's closure by a table -/
def memT (t : T Bool) (i : Nat) : Bool := match t.get i with | some b => b | none => false
/-- a tree of a list's members, numbered from k on -/
def treeFrom {α : Type} (l : List α) : Nat → T α → T α := List.rec (fun _ t => t) (fun a _ ih k t => ih (Nat.succ k) (t.put k a)) l
theorem get_treeFrom {α : Type} : ∀ (l : List α) (k : Nat) (t : T α) (i : Nat), (treeFrom l k t).get i = if k ≤ i ∧ i < k + l.length then l[i - k]? else t.get i
  | [], k, t, i => by
    have : ¬ (k ≤ i ∧ i < k + ([] : List α).length) := by simp
    rw [if_neg this]; rfl
  | a :: l, k, t, i => by
    show (treeFrom l (k + 1) (t.put k a)).get i = _
    rw [get_treeFrom l (k + 1), T.get_put]
    by_cases h1 : k + 1 ≤ i ∧ i < k + 1 + l.length
    · rw [if_pos h1, if_pos (by simp; omega)]
      obtain ⟨j, rfl⟩ : ∃ j, i = k + 1 + j := ⟨i - (k + 1), by omega⟩
      rw [show k + 1 + j - (k + 1) = j by omega, show k + 1 + j - k = j + 1 by omega, List.getElem?_cons_succ]
    · rw [if_neg h1]
      by_cases h2 : i = k
      · subst h2; rw [if_pos rfl, if_pos (by simp), Nat.sub_self]; rfl
      · rw [if_neg h2, if_neg (by simp; omega)]
def lookT (LT : T (List Nat)) (f : Nat) : List Nat := match LT.get f with | some l => l | none => []
/-- the closure, by the table and a tree of what was seen -/
def fastC (LT : T (List Nat)) (n : Nat) : List Nat → T Bool → List Nat → Option (List Nat) :=
  Nat.rec (fun _ _ _ => none) (fun _ ih todo t seen => List.casesOn todo (some seen.reverse) (fun f todo => bif memT t f then ih todo t seen else ih (lookT LT f ++ todo) (t.put f true) (f :: seen))) n
theorem fastC_ok {P : Program} {LT : T (List Nat)} (hLT : ∀ f, (P.funcs[f]?).elim [] P.leadsTo = lookT LT f) : ∀ (n : Nat) (todo : List Nat) (t : T Bool) (seen L : List Nat), (∀ i, memT t i = seen.contains i) → fastC LT n todo t seen = some L → ∀ m, n ≤ m → P.closureVia m todo seen = L
  | 0, _, _, _, _, _, h, _, _ => by cases h
  | n + 1, [], t, seen, L, _, h, m, hm => by
    obtain ⟨m, rfl⟩ : ∃ k, m = k + 1 := ⟨m - 1, by omega⟩
    have h : some seen.reverse = some L := h
    cases h
    rw [Program.closureVia]
    intro h; cases h
  | n + 1, f :: todo, t, seen, L, ht, h, m, hm => by
    obtain ⟨m, rfl⟩ : ∃ k, m = k + 1 := ⟨m - 1, by omega⟩
    have h : (bif memT t f then fastC LT n todo t seen else fastC LT n (lookT LT f ++ todo) (t.put f true) (f :: seen)) = some L := h
    rw [Program.closureVia]
    cases hb : memT t f with
    | true =>
      rw [hb] at h
      rw [if_pos (by rw [← ht f]; exact hb)]
      exact fastC_ok hLT n todo t seen L ht h m (by omega)
    | false =>
      rw [hb] at h
      rw [if_neg (by rw [← ht f, hb]; simp), hLT]
      refine fastC_ok hLT n _ _ _ L (fun i => ?_) h m (by omega)
      unfold memT
      rw [T.get_put, List.contains_cons]
      by_cases hi : i = f
      · subst hi; simp
      · rw [if_neg hi]
        have := ht i
        unfold memT at this
        rw [this]
        simp [hi]
def sumLen : List (List Nat) → Nat := List.rec 0 fun l _ ih => Nat.add (Nat.succ (lenN l)) ih
theorem sumLen_eq : ∀ l : List (List Nat), (l.map fun x => x.length + 1).sum = sumLen l
  | [] => rfl
  | a :: l => by
    rw [List.map_cons, List.sum_cons, sumLen_eq l]
    show _ = Nat.succ (lenN a) + sumLen l
    rw [lenN_eq]
/-- the closure of a function, out of the program's table -/
theorem closure_of {P : Program} {LL : List (List Nat)} (hLL : P.funcs.toList.map P.leadsTo = LL) {f n : Nat} {L : List Nat} (h : fastC (treeFrom LL 0 .leaf) n [f] .leaf [] = some L) (hn : Nat.ble n (Nat.succ (sumLen LL)) = true) : P.closure f = L := by
  unfold Program.closure
  have hs : (P.funcs.toList.map fun g => (P.leadsTo g).length + 1).sum = sumLen LL := by
    rw [← sumLen_eq, ← hLL, List.map_map]; rfl
  rw [hs]
  refine fastC_ok (LT := treeFrom LL 0 .leaf) (fun g => ?_) n [f] .leaf [] L (fun i => rfl) h _ (by have := Nat.le_of_ble_eq_true hn; omega)
  unfold lookT
  rw [get_treeFrom, ← hLL]
  simp only [Nat.zero_le, true_and, Nat.zero_add, List.length_map, Nat.sub_zero, Array.length_toList]
  by_cases hg : g < P.funcs.size
  · rw [if_pos hg, List.getElem?_map, Array.getElem?_toList, Array.getElem?_eq_getElem hg]; rfl
  · rw [if_neg hg, Array.getElem?_eq_none (by omega)]; rfl
end
end Go.Abs
