/- A part of the proof of DirectDifferences: see the last text of this claim. -/
import Derived.Test.YtfdpjfgkdjlomaaGreatDoorProg
import Derived.KernelRfl
import Derived.Shelf.Strings.Search3
import Derived.Lib.Bytealg
import Derived.Test.YtfdpjfgkdjlomaaGreatDoorA4
import Derived.Test.YtfdpjfgkdjlomaaGreatDoorA3
import Derived.Test.YtfdpjfgkdjlomaaGreatDoorX1
namespace Go.Abs
noncomputable section
open Go Go.Proofs
/-! ## The interpreter for this program; functions whose answers are known, one after the other -/
def memN (l : List Nat) (f : Nat) : Bool := List.rec false (fun a _ ih => bif Nat.beq a f then true else ih) l
def bodyOf (fn : Func) : Code := match fn.body with | some c => c | none => .skip
abbrev RS := FuncId → List AV → Option (AV × Option Prop)
def globS (_ : Nat) : AV := .dead
def own1S (f : Nat) : Bool := memN [29, 52, 81] f
def Cs (rs : RS) : Cfg := { P := Tryz.prog, glob := globS, ext := fun _ => none, spec := specOf rs, pure := fun _ => true, own1 := own1S, loops := big, gobj := fun _ => none, nodef := fun f => memN [207] f, rs := rs, trim := true, frz := fun f => memN [85, 17] f, gint := fun g => Nat.beq g 0 }
def rsN : RS := fun _ _ => none
def CB : Cfg := Cs rsN
instance (rs : RS) : RsC (Cs rs) := ⟨⟨rfl⟩⟩
def RsOk (rs : RS) : Prop := ∀ f args v o, rs f args = some (v, o) → holdsO o → ∀ h, CallOk CB f args h none (.val v h none)
def addS (rs : RS) (f : FuncId) (s : List AV → Option (AV × Option Prop)) : RS := fun g args => bif Nat.beq g f then s args else rs g args
theorem RsOk.zero : RsOk rsN := fun _ _ _ _ e => by cases e
theorem RsOk.add {rs : RS} (H : RsOk rs) (f : FuncId) {s : List AV → Option (AV × Option Prop)} (K : ∀ args v o, s args = some (v, o) → holdsO o → ∀ h, CallOk CB f args h none (.val v h none)) : RsOk (addS rs f s) := by
  intro g args v o e ho h
  unfold addS at e
  cases hb : Nat.beq g f with
  | true =>
    rw [hb] at e
    obtain rfl := Nat.eq_of_beq_eq_true hb
    exact K args v o e ho h
  | false => rw [hb] at e; exact H g args v o e ho h
/-- a function that calls itself: where it is so, it is so -/
def selfS (f : FuncId) (s : List AV → Option AV) (args : List AV) : Option (AV × Option Prop) := match s args with | some v => some (v, some (∀ h, CallOk CB f args h none (.val v h none))) | none => none
theorem selfS_ok {f : FuncId} {s : List AV → Option AV} (args : List AV) (v : AV) (o : Option Prop) (e : selfS f s args = some (v, o)) (ho : holdsO o) : ∀ h, CallOk CB f args h none (.val v h none) := by
  unfold selfS at e
  split at e
  · cases e; exact ho
  · cases e
theorem specOf_off {rs : RS} {f : FuncId} {args : List AV} {v : AV} (hN : ¬ ∀ h, CallOk CB f args h none (.val v h none)) (e : rs f args = some (v, some (∀ h, CallOk CB f args h none (.val v h none))) := by kernel_rfl) : specOf rs f args = none := by
  unfold specOf
  rw [e]
  exact if_neg hN
def namesOk : List Func → Bool := List.rec true fun fn _ ih => !(fn.name == "runtime.NumGoroutine") && ih
theorem namesOk_mem : ∀ (l : List Func), namesOk l = true → ∀ fn ∈ l, fn.name ≠ "runtime.NumGoroutine"
  | [], _, fn, h => by cases h
  | a :: l, h, fn, hm => by
    have h : (!(a.name == "runtime.NumGoroutine") && namesOk l) = true := h
    rw [Bool.and_eq_true] at h
    rcases List.mem_cons.1 hm with rfl | hm
    · have := h.1; simpa using this
    · exact namesOk_mem l h.2 fn hm
theorem names_all : namesOk Tryz.prog.funcs.toList = true := by kernel_rfl
theorem name_of (f : Nat) (fn : Func) (h : Tryz.prog.funcs[f]? = some fn) : fn.name ≠ "runtime.NumGoroutine" :=
  namesOk_mem _ names_all fn (by rw [← Array.getElem?_toList] at h; exact List.mem_of_getElem? h)
theorem mixed : Tryz.prog.follows .mixedOrders = true := by kernel_rfl
theorem CallOk.to {C D : Cfg} (hP : C.P = D.P) (hg : C.glob = D.glob) (ho : C.gobj = D.gobj) (hn : C.nodef = D.nodef) (hi : C.gint = D.gint) {f : FuncId} {args : List AV} {h : Heap} {pn : Option AV} {res : Res} (K : CallOk C f args h pn res) : CallOk D f args h pn res := by
  intro w F μ vs G H r
  have G' : GRel C w F := ⟨fun g => by rw [hg]; exact G.at_ g, fun g vs e => G.obj g vs (by rw [← ho]; exact e), fun g e => G.int g (by rw [← hi]; exact e)⟩
  have := K w F μ vs G' H r
  rw [hP, hn] at this
  exact this
theorem givenS {rs : RS} (H : RsOk rs) : Given (Cs rs) := by
  refine ⟨fun f e he => (by cases he), fun f args v hs h => ?_, name_of⟩
  have hs : specOf rs f args = some v := hs
  obtain ⟨o, e, ho⟩ := specOf_some hs
  exact CallOk.to (C := CB) (D := Cs rs) rfl rfl rfl rfl rfl (H f args v o e ho h)
theorem walked {rs : RS} (H : RsOk rs) {n : Nat} {f : FuncId} {args : List AV} {v : AV} {h h' : Heap} (e : (fns (Cs rs) n).call f args h none = some (.val v h' none)) : CallOk CB f args h none (.val v h' none) :=
  CallOk.to (C := Cs rs) (D := CB) rfl rfl rfl rfl rfl (run_ok (C := Cs rs) (givenS H) mixed e)
/-- where a walk begins -/
def st0 (fn : Func) (args : List AV) : X := ⟨.code (bodyOf fn), [], { n := fn.ntmps, tm := tmOf 0 args (fullT 12 fn.ntmps), h := Heap.empty, ds := [], pn := none }⟩
/-- a function over a heap of its own, walked -/
theorem pureS {rs : RS} (H : RsOk rs) {f : FuncId} {fn : Func} (hf : Tryz.prog.funcs[f]? = some fn) {args : List AV} {v : AV} (w : KV (Cs rs) (fns (Cs rs) 1) (RetQ (Cs rs) (fns (Cs rs) 1) fn) v (st0 fn args) v)
    (hs : specOf rs f args = none := by kernel_rfl) (hb : fn.body = some (bodyOf fn) := by kernel_rfl) (ho : own1S f = false := by kernel_rfl) (hn : noOwnL (noOwn deep) args = true := by kernel_rfl) (hl : Nat.ble (lenN args) fn.ntmps = true := by kernel_rfl) (h : Heap) : CallOk CB f args h none (.val v h none) :=
  walked H (n := 2) (pureX (C := Cs rs) (F := fns (Cs rs) 1) ho rfl hs hn hf hb hl (w.w rfl) h)
/-- .. with so many levels of calls below -/
theorem pureN {rs : RS} (H : RsOk rs) (n : Nat) {f : FuncId} {fn : Func} (hf : Tryz.prog.funcs[f]? = some fn) {args : List AV} {v : AV} (w : KV (Cs rs) (fns (Cs rs) n) (RetQ (Cs rs) (fns (Cs rs) n) fn) v (st0 fn args) v)
    (hs : specOf rs f args = none := by kernel_rfl) (hb : fn.body = some (bodyOf fn) := by kernel_rfl) (ho : own1S f = false := by kernel_rfl) (hn : noOwnL (noOwn deep) args = true := by kernel_rfl) (hl : Nat.ble (lenN args) fn.ntmps = true := by kernel_rfl) (h : Heap) : CallOk CB f args h none (.val v h none) :=
  walked H (n := n + 1) (pureX (C := Cs rs) (F := fns (Cs rs) n) ho rfl hs hn hf hb hl (w.w rfl) h)
/-- a function over one block of the caller's, walked -/
def st1 (fn : Func) (el : Nat) (wh : Bool) (cs rest : List AV) : X := ⟨.code (bodyOf fn), [], { n := fn.ntmps, tm := tmOf 0 (.ptrO 0 0 :: rest) (fullT 12 fn.ntmps), h := hpL [bk 0 el wh 0 cs], ds := [], pn := none }⟩
theorem ownS {rs : RS} {n : Nat} {f : FuncId} {fn : Func} (hf : Tryz.prog.funcs[f]? = some fn) {el : Nat} {wh : Bool} {cs rest : List AV} {p : AV × List AV} (w : KV (Cs rs) (fns (Cs rs) n) (RetO2 (Cs rs) (fns (Cs rs) n) fn el wh) p (st1 fn el wh cs rest) p)
    (hv : noOwn deep p.1 = true := by kernel_rfl) (hno' : noOwnL (noOwn deep) p.2 = true := by kernel_rfl)
    (hs : ∀ i, specOf rs f (.ptrO i 0 :: rest) = none := by intro i; kernel_rfl) (hb : fn.body = some (bodyOf fn) := by kernel_rfl) (ho : own1S f = true := by kernel_rfl) (hno : noOwnL (noOwn deep) cs = true := by kernel_rfl) (hn : noOwnL (noOwn deep) rest = true := by kernel_rfl) (hl : Nat.ble (lenN (.ptrO 0 0 :: rest)) fn.ntmps = true := by kernel_rfl)
    {i g ver : Nat} {h : Heap} (hg : h.get i = some (bk g el wh ver cs)) : (fns (Cs rs) (n + 1)).call f (.ptrO i 0 :: rest) h none = some (.val p.1 (h.set i (bk g el wh (Nat.succ ver) p.2)) none) :=
  ownq (C := Cs rs) (F := fns (Cs rs) n) (y := .ptrO 0 0) ho (hs i) rfl hg hno hno' hv hn hf hb hl (w.w rfl)
end
end Go.Abs
namespace Go.Abs
noncomputable section
open Go Go.Proofs
theorem f86_w (b : Bool) : ∀ h, CallOk CB 86 [.bool b] h none (.val (gI ((bif b then 1 else 0))) h none) :=
  pureS RsOk.zero Tryz.func86 <| K.z gI (fun _ => K.r) (fun _ => K.r)
def r1 : RS := addS rsN 86 fun args => match args with | [.bool b] => some (gI ((bif b then 1 else 0)), none) | _ => none
theorem r1_ok : RsOk r1 := RsOk.add RsOk.zero 86 fun _ _ _ e ho h => by
  split at e
  · cases e; exact f86_w _ h
  · cases e
def a214 (a : Int) (b : Int) (c : Int) : Bool := (bif decide (b ≤ a) then decide (a ≤ c) else false)
theorem f214_w (a : Int) (b : Int) (c : Int) : ∀ h, CallOk CB 214 [.int .i64 a, .int .i64 b, .int .i64 c] h none (.val (gB (a214 a b c)) h none) :=
  pureS r1_ok Tryz.func214 <| K.g fun _ => K.r
def r2 : RS := addS r1 214 fun args => match args with | [.int .i64 a, .int .i64 b, .int .i64 c] => some (gB (a214 a b c), none) | _ => none
theorem r2_ok : RsOk r2 := RsOk.add r1_ok 214 fun _ _ _ e ho h => by
  split at e
  · cases e; exact f214_w _ _ _ h
  · cases e
def a302 (c : Int) : Bool := (bif decide (c ≥ 97) then decide (c ≤ 122) else false)
theorem f302_w (c : Int) : ∀ h, CallOk CB 302 [.int .u8 c] h none (.val (gB (a302 c)) h none) :=
  pureS r2_ok Tryz.func302 <| K.g fun _ => K.r
def r3 : RS := addS r2 302 fun args => match args with | [.int .u8 c] => some (gB (a302 c), none) | _ => none
theorem r3_ok : RsOk r3 := RsOk.add r2_ok 302 fun _ _ _ e ho h => by
  split at e
  · cases e; exact f302_w _ h
  · cases e
def a303 (c : Int) : Bool := (bif decide (c ≥ 65) then decide (c ≤ 90) else false)
theorem f303_w (c : Int) : ∀ h, CallOk CB 303 [.int .u8 c] h none (.val (gB (a303 c)) h none) :=
  pureS r3_ok Tryz.func303 <| K.g fun _ => K.r
def r4 : RS := addS r3 303 fun args => match args with | [.int .u8 c] => some (gB (a303 c), none) | _ => none
theorem r4_ok : RsOk r4 := RsOk.add r3_ok 303 fun _ _ _ e ho h => by
  split at e
  · cases e; exact f303_w _ h
  · cases e
def a304 (c : Int) : Bool := (bif decide (c ≥ 48) then decide (c ≤ 57) else false)
theorem f304_w (c : Int) : ∀ h, CallOk CB 304 [.int .u8 c] h none (.val (gB (a304 c)) h none) :=
  pureS r4_ok Tryz.func304 <| K.g fun _ => K.r
def r5 : RS := addS r4 304 fun args => match args with | [.int .u8 c] => some (gB (a304 c), none) | _ => none
theorem r5_ok : RsOk r5 := RsOk.add r4_ok 304 fun _ _ _ e ho h => by
  split at e
  · cases e; exact f304_w _ h
  · cases e
def a213 (k : Int) : Bool := (bif (bif a214 k 1 6 then true else a214 k 9 12) then true else (k == 14))
theorem f213_w (k : Int) : ∀ h, CallOk CB 213 [.int .i64 k] h none (.val (gB (a213 k)) h none) :=
  pureS r5_ok Tryz.func213 <| K.g fun _ => K.r
def r6 : RS := addS r5 213 fun args => match args with | [.int .i64 k] => some (gB (a213 k), none) | _ => none
theorem r6_ok : RsOk r6 := RsOk.add r5_ok 213 fun _ _ _ e ho h => by
  split at e
  · cases e; exact f213_w _ h
  · cases e
def a32 (k : Int) (n : Int) (e : Int) (s : Str) (nn : List Str) (ni : List Val) : Bool := (bif (bif (bif (bif (bif (k == 0) then (n == 0) else false) then (e == 0) else false) then beqBytes s [] else false) then (((nn.length : Nat) : Int) == 0) else false) then (((ni.length : Nat) : Int) == 0) else false)
theorem f32_w (k : Int) (n : Int) (e : Int) (s : Str) (nn : List Str) (x : Bool) (ni : List Val) (y : Bool) : ∀ h, CallOk CB 32 [.agg [.int .i64 k, .int .i64 n, .int .i64 e, .str s, .slT .str nn x, .slT .val ni y]] h none (.val (gB (a32 k n e s nn ni)) h none) :=
  pureS r6_ok Tryz.func32 <| K.g fun _ => K.r
def r7 : RS := addS r6 32 fun args => match args with | [.agg [.int .i64 k, .int .i64 n, .int .i64 e, .str s, .slT .str nn _, .slT .val ni _]] => some (gB (a32 k n e s nn ni), none) | _ => none
theorem r7_ok : RsOk r7 := RsOk.add r6_ok 32 fun _ _ _ e ho h => by
  split at e
  · cases e; exact f32_w _ _ _ _ _ _ _ _ h
  · cases e
def a23 (n : Int) (e : Int) (s : Str) (nn : List Str) (ni : List Val) : Bool := (bif (bif (bif (bif (n == 0) then (e == 0) else false) then beqBytes s [] else false) then (((nn.length : Nat) : Int) == 0) else false) then (((ni.length : Nat) : Int) == 0) else false)
theorem f23_w (k : Int) (n : Int) (e : Int) (s : Str) (nn : List Str) (x : Bool) (ni : List Val) (y : Bool) : ∀ h, CallOk CB 23 [.agg [.int .i64 k, .int .i64 n, .int .i64 e, .str s, .slT .str nn x, .slT .val ni y]] h none (.val (gB (a23 n e s nn ni)) h none) :=
  pureS r7_ok Tryz.func23 <| K.g fun _ => K.r
def r8 : RS := addS r7 23 fun args => match args with | [.agg [.int .i64 _, .int .i64 n, .int .i64 e, .str s, .slT .str nn _, .slT .val ni _]] => some (gB (a23 n e s nn ni), none) | _ => none
theorem r8_ok : RsOk r8 := RsOk.add r7_ok 23 fun _ _ _ e ho h => by
  split at e
  · cases e; exact f23_w _ _ _ _ _ _ _ _ h
  · cases e
theorem ixs {i : Nat} {s : Str} (h : i < lenN s) : Ix ((i : Nat) : Int) s := ix (by rw [lenN_eq] at h; exact h)
def a298 (s : Str) (t : Str) : Bool := (bif decide (((lenN s : Nat) : Int) ≥ ((lenN t : Nat) : Int)) then beqBytes (s.drop (wrapF .i64 (((lenN s : Nat) : Int) - ((lenN t : Nat) : Int))).toNat) t else false)
theorem hs_side {s t : Str} (hP : s.length < big) (h : decide (((lenN s : Nat) : Int) ≥ ((lenN t : Nat) : Int)) = true) : 0 ≤ wrapF .i64 (((lenN s : Nat) : Int) - ((lenN t : Nat) : Int)) ∧ wrapF .i64 (((lenN s : Nat) : Int) - ((lenN t : Nat) : Int)) ≤ ((s.length : Nat) : Int) := by
  have h := of_decide_eq_true h
  rw [lenN_eq, lenN_eq] at h ⊢
  obtain ⟨n, hn⟩ : ∃ n : Nat, ((s.length : Nat) : Int) - ((t.length : Nat) : Int) = ((n : Nat) : Int) := ⟨s.length - t.length, by omega⟩
  rw [hn]
  have e : wrapF .i64 ((n : Nat) : Int) = ((n : Nat) : Int) := by
    unfold wrapF
    have : inR64 ((n : Nat) : Int) = true := Nat.ble_eq_true_of_le (by unfold big at hP; omega)
    simp only [this, cond_true]
  rw [e]
  omega
theorem f298_w (s : Str) (t : Str) (hP : s.length < big) : ∀ h, CallOk CB 298 [.str s, .str t] h none (.val (gB (a298 s t)) h none) :=
  pureS r8_ok Tryz.func298 <| K.i (True ∧ (decide (((lenN s : Nat) : Int) ≥ ((lenN t : Nat) : Int)) = true → 0 ≤ wrapF .i64 (((lenN s : Nat) : Int) - ((lenN t : Nat) : Int)) ∧ wrapF .i64 (((lenN s : Nat) : Int) - ((lenN t : Nat) : Int)) ≤ ((s.length : Nat) : Int))) ⟨trivial, fun h => hs_side hP h⟩ fun _ => K.r
def r9 : RS := addS r8 298 fun args => match args with | [.str s, .str t] => some (gB (a298 s t), some (s.length < big)) | _ => none
theorem r9_ok : RsOk r9 := RsOk.add r8_ok 298 fun _ _ _ e ho h => by
  split at e
  · cases e; exact f298_w _ _ ho h
  · cases e
theorem f206_w (s : Str) (t : Str) (hP : s.length < big) : ∀ h, CallOk CB 206 [.str s, .str t] h none (.val (gB (a298 s t)) h none) :=
  pureS r9_ok Tryz.func206 <| K.i (True ∧ s.length < big) ⟨trivial, hP⟩ fun _ => K.r
def r10 : RS := addS r9 206 fun args => match args with | [.str s, .str t] => some (gB (a298 s t), some (s.length < big)) | _ => none
theorem r10_ok : RsOk r10 := RsOk.add r9_ok 206 fun _ _ _ e ho h => by
  split at e
  · cases e; exact f206_w _ _ ho h
  · cases e
theorem beq_self (s : Str) : beqBytes s s = true := by rw [beqBytes_eq]; exact beq_self_eq_true s
theorem f378_w (s : Str) : ∀ h, CallOk CB 378 [.str s] h none (.val (gB (!(beqBytes s s))) h none) :=
  pureS r10_ok Tryz.func378 <| K.r
def r11 : RS := addS r10 378 fun args => match args with | [.str s] => some (gB (!(beqBytes s s)), none) | _ => none
theorem r11_ok : RsOk r11 := RsOk.add r10_ok 378 fun _ _ _ e ho h => by
  split at e
  · cases e; exact f378_w _ h
  · cases e
def a301 (s : Str) (t : Str) : Int := (bif !(beqBytes s s) then (bif !(beqBytes t t) then 0 else (-1)) else (bif !(beqBytes t t) then 1 else (bif Op.bytesLess s t then (-1) else (bif !(Op.bytesLess s t || beqBytes s t) then 1 else 0))))
theorem f301_w (s : Str) (t : Str) : ∀ h, CallOk CB 301 [.str s, .str t] h none (.val (gI (a301 s t)) h none) :=
  pureS r11_ok Tryz.func301 <| K.z gI (fun _ => K.z gI (fun _ => K.r) (fun _ => K.r)) (fun _ => K.z gI (fun _ => K.r) (fun _ => K.z gI (fun _ => K.r) (fun _ => K.z gI (fun _ => K.r) (fun _ => K.r))))
def r12 : RS := addS r11 301 fun args => match args with | [.str s, .str t] => some (gI (a301 s t), none) | _ => none
theorem r12_ok : RsOk r12 := RsOk.add r11_ok 301 fun _ _ _ e ho h => by
  split at e
  · cases e; exact f301_w _ _ h
  · cases e
def f209 (l : List Str) (s : Str) : Nat → Nat → Int
  | _, 0 => (-1)
  | i, rr + 1 => (bif beqBytes s (sAt l i) then ((i : Nat) : Int) else f209 l s (i + 1) rr)
theorem f209_w (l : List Str) (lx : Bool) (s : Str) (hP : l.length < big) : ∀ h, CallOk CB 209 [.slT .str l lx, .str s] h none (.val (gI (f209 l s 0 l.length)) h none) :=
  pureS r12_ok Tryz.func209 <| K.lc gI 8 l.length (f209 l s) hP (fun i _ N0 hi0 => K.w1 hi0 <| K.i (True ∧ Ix ((i : Nat) : Int) l) ⟨trivial, ix hi0⟩ fun _ => K.z gI (fun _ => K.r) (fun _ => K.nc 8 N0 hP hi0)) (fun _ => K.w0 l.length <| K.r)
def r13 : RS := addS r12 209 fun args => match args with | [.slT .str l _, .str s] => some (gI (f209 l s 0 l.length), some (l.length < big)) | _ => none
theorem r13_ok : RsOk r13 := RsOk.add r12_ok 209 fun _ _ _ e ho h => by
  split at e
  · cases e; exact f209_w _ _ _ ho h
  · cases e
theorem f124_w (l : List Str) (lx : Bool) (s : Str) (hP : l.length < big) : ∀ h, CallOk CB 124 [.slT .str l lx, .str s] h none (.val (gB (decide ((f209 l s 0 l.length) ≥ 0))) h none) :=
  pureS r13_ok Tryz.func124 <| K.i (True ∧ l.length < big) ⟨trivial, hP⟩ fun _ => K.r
def r14 : RS := addS r13 124 fun args => match args with | [.slT .str l _, .str s] => some (gB (decide ((f209 l s 0 l.length) ≥ 0)), some (l.length < big)) | _ => none
theorem r14_ok : RsOk r14 := RsOk.add r13_ok 124 fun _ _ _ e ho h => by
  split at e
  · cases e; exact f124_w _ _ _ ho h
  · cases e
def f217 (l : List Str) (s : Str) : Nat → Nat → Int
  | _, 0 => (-1)
  | i, rr + 1 => (bif beqBytes (sAt l i) s then ((i : Nat) : Int) else f217 l s (i + 1) rr)
theorem f217_w (l : List Str) (lx : Bool) (s : Str) (hP : l.length < big) : ∀ h, CallOk CB 217 [.slT .str l lx, .str s] h none (.val (gI (f217 l s 0 l.length)) h none) :=
  pureS r14_ok Tryz.func217 <| K.lc gI 5 l.length (f217 l s) hP (fun i _ N0 hi0 => K.w1 hi0 <| K.i (True ∧ Ix ((i : Nat) : Int) l) ⟨trivial, ix hi0⟩ fun _ => K.z gI (fun _ => K.r) (fun _ => K.nc 5 N0 hP hi0)) (fun _ => K.w0 l.length <| K.r)
def r15 : RS := addS r14 217 fun args => match args with | [.slT .str l _, .str s] => some (gI (f217 l s 0 l.length), some (l.length < big)) | _ => none
theorem r15_ok : RsOk r15 := RsOk.add r14_ok 217 fun _ _ _ e ho h => by
  split at e
  · cases e; exact f217_w _ _ _ ho h
  · cases e
def f34 (l : List Str) (l2 : List Str) : Nat → Nat → Bool
  | _, 0 => true
  | i, rr + 1 => (bif !(beqBytes (sAt l i) (sAt l2 i)) then false else f34 l l2 (i + 1) rr)
def a34 (l : List Str) (l2 : List Str) : Bool := (bif (((l.length : Nat) : Int) != ((l2.length : Nat) : Int)) then false else f34 l l2 0 l.length)
theorem eq_len {a b i : Nat} (h : ((((a : Nat) : Int) != ((b : Nat) : Int))) = false) (hi : i < a) : i < b := by
  have h2 : ((a : Nat) : Int) = ((b : Nat) : Int) := by simpa using h
  omega
theorem f34_w (l : List Str) (lx : Bool) (l2 : List Str) (l2x : Bool) (hP : l.length < big) : ∀ h, CallOk CB 34 [.slT .str l lx, .slT .str l2 l2x] h none (.val (gB (a34 l l2)) h none) :=
  pureS r15_ok Tryz.func34 <| K.z gB (fun _ => K.r) (fun h1 => K.lc gB 13 l.length (f34 l l2) hP (fun i _ N0 hi0 => K.w1 hi0 <| K.d ((True ∧ Ix ((i : Nat) : Int) l) ∧ Ix ((i : Nat) : Int) l2) ⟨⟨trivial, ix hi0⟩, ix (eq_len h1 hi0)⟩ <| K.z gB (fun _ => K.r) (fun _ => K.nc 13 N0 hP hi0)) (fun _ => K.w0 l.length <| K.r))
def r16 : RS := addS r15 34 fun args => match args with | [.slT .str l _, .slT .str l2 _] => some (gB (a34 l l2), some (l.length < big)) | _ => none
theorem r16_ok : RsOk r16 := RsOk.add r15_ok 34 fun _ _ _ e ho h => by
  split at e
  · cases e; exact f34_w _ _ _ _ ho h
  · cases e
def f215 (k : Int) (s : Str) : Nat → Nat → Bool
  | _, 0 => true
  | i, rr + 1 => (bif (bif (bif (bif (k == 4) then ((((byteAt s ((i : Nat) : Int)).toNat : Nat) : Int) != 48) else false) then ((((byteAt s ((i : Nat) : Int)).toNat : Nat) : Int) != 49) else false) then true else (bif (k == 6) then (!(a214 (wrapF .i64 (((byteAt s ((i : Nat) : Int)).toNat : Nat) : Int)) 32 126)) else false)) then false else f215 k s (i + 1) rr)
theorem hl_s {s : Str} (h : s.length < big) : lenN s < big := by rw [lenN_eq]; exact h
theorem f215_w (k : Int) (n : Int) (e : Int) (s : Str) (nn : List Str) (x : Bool) (ni : List Val) (y : Bool) (hP : s.length < big) : ∀ h, CallOk CB 215 [.agg [.int .i64 k, .int .i64 n, .int .i64 e, .str s, .slT .str nn x, .slT .val ni y]] h none (.val (gB (f215 k s 0 (lenN s))) h none) :=
  pureS r16_ok Tryz.func215 <| K.lc gB 3 (lenN s) (f215 k s) (hl_s hP) (fun i _ N0 hi0 => K.w1 hi0 <| K.i (((True ∧ ((k == 4) = true → Ix ((i : Nat) : Int) s)) ∧ ((bif (k == 4) then ((((byteAt s ((i : Nat) : Int)).toNat : Nat) : Int) != 48) else false) = true → Ix ((i : Nat) : Int) s)) ∧ ((k == 6) = true → ((bif (bif (k == 4) then ((((byteAt s ((i : Nat) : Int)).toNat : Nat) : Int) != 48) else false) then ((((byteAt s ((i : Nat) : Int)).toNat : Nat) : Int) != 49) else false) = false → Ix ((i : Nat) : Int) s))) ⟨⟨⟨trivial, fun _ => ixs hi0⟩, fun _ => ixs hi0⟩, fun _ => fun _ => ixs hi0⟩ fun _ => K.z gB (fun _ => K.r) (fun _ => K.nc 3 N0 (hl_s hP) hi0)) (fun _ => K.w0 (lenN s) <| K.r)
def r17 : RS := addS r16 215 fun args => match args with | [.agg [.int .i64 k, .int .i64 _, .int .i64 _, .str s, .slT .str _ _, .slT .val _ _]] => some (gB (f215 k s 0 (lenN s)), some (s.length < big)) | _ => none
theorem r17_ok : RsOk r17 := RsOk.add r16_ok 215 fun _ _ _ e ho h => by
  split at e
  · cases e; exact f215_w _ _ _ _ _ _ _ _ ho h
  · cases e
end
end Go.Abs
namespace Go.Proofs
open Go.Shelf
def Tryz.lays144_ren : Go.Shelf.Ren := ⟨fun | 144 => 207 | 143 => 299 | 217 => 442 | 219 => 376 | 224 => 444 | 225 => 443 | 266 => 489 | 267 => 445 | 314 => 490 | n => n, fun | 46 => 352 | 51 => 520 | 146 => 521 | n => n, fun | 1 => 0 | n => n⟩
theorem Tryz.lays144 : Go.Proofs.Lays.n144 Tryz.prog Tryz.lays144_ren := {
  mixed := by kernel_rfl
  f143 := Tryz.func299.trans (congrArg some (by kernel_rfl))
  f144 := Tryz.func207.trans (congrArg some (by kernel_rfl))
  f217 := Tryz.func442.trans (congrArg some (by kernel_rfl))
  f219 := Tryz.func376.trans (congrArg some (by kernel_rfl))
  f224 := Tryz.func444.trans (congrArg some (by kernel_rfl))
  f225 := Tryz.func443.trans (congrArg some (by kernel_rfl))
  f266 := Tryz.func489.trans (congrArg some (by kernel_rfl))
  f267 := Tryz.func445.trans (congrArg some (by kernel_rfl))
  f314 := Tryz.func490.trans (congrArg some (by kernel_rfl))
  t3 := Tryz.underlying3
  a3 := Tryz.isAgg3
  z3 := Tryz.sizeOf3
  v3 := Tryz.zeroValue3
  t4 := Tryz.underlying4
  a4 := Tryz.isAgg4
  z4 := Tryz.sizeOf4
  v4 := Tryz.zeroValue4
  t5 := Tryz.underlying5
  a5 := Tryz.isAgg5
  z5 := Tryz.sizeOf5
  v5 := Tryz.zeroValue5
  t9 := Tryz.underlying9
  a9 := Tryz.isAgg9
  z9 := Tryz.sizeOf9
  v9 := Tryz.zeroValue9
  t46 := Tryz.underlying352
  a46 := Tryz.isAgg352
  z46 := Tryz.sizeOf352
  v46 := Tryz.zeroValue352
  t51 := Tryz.underlying520
  a51 := Tryz.isAgg520
  z51 := Tryz.sizeOf520
  v51 := Tryz.zeroValue520
  t146 := Tryz.underlying521
  a146 := Tryz.isAgg521
  z146 := Tryz.sizeOf521
  v146 := Tryz.zeroValue521
  g1 := by kernel_rfl }
end Go.Proofs
namespace Go.Abs
noncomputable section
open Go Go.Proofs
theorem cmp_lib : ∀ a b : Str, Lib.compareBytes a b = cmpS a b
  | [], [] => rfl
  | [], _ :: _ => rfl
  | _ :: _, [] => rfl
  | a :: l, b :: k => by
    rw [Lib.compareBytes, cmpS, cmp_lib l k]
    unfold orC cmpI
    by_cases h1 : a < b
    · have h : ((a.toNat : Nat) : Int) < ((b.toNat : Nat) : Int) := by have := UInt8.lt_iff_toNat_lt.1 h1; omega
      rw [if_pos h1, decide_eq_true h]; rfl
    · have h : ¬ ((a.toNat : Nat) : Int) < ((b.toNat : Nat) : Int) := fun h => h1 (UInt8.lt_iff_toNat_lt.2 (by omega))
      rw [if_neg h1, decide_eq_false h]
      by_cases h2 : b < a
      · have h : ((b.toNat : Nat) : Int) < ((a.toNat : Nat) : Int) := by have := UInt8.lt_iff_toNat_lt.1 h2; omega
        rw [if_pos h2, decide_eq_true h]; rfl
      · have h : ¬ ((b.toNat : Nat) : Int) < ((a.toNat : Nat) : Int) := fun h => h2 (UInt8.lt_iff_toNat_lt.2 (by omega))
        rw [if_neg h2, decide_eq_false h]; rfl
/-- the machine's comparison of strings -/
theorem f377_w (a b : Str) : ∀ h, CallOk CB 377 [.str a, .str b] h none (.val (gI (cmpS a b)) h none) := by
  intro h w F μ vs G H r
  obtain ⟨u, v, hu, ru, rv⟩ := relL_two r
  unfold Rel at ru rv
  refine .inl ⟨.int .i64 (cmpS a b), w, F, μ, _, _, ?_, rfl, Next.refl w F μ, H, by unfold gI Rel; rfl⟩
  rw [hu, ru, rv]
  have hs := Lib.run_compareString (P := Tryz.prog) ⟨⟨a⟩⟩ ⟨⟨b⟩⟩ w
  have hf : Tryz.prog.funcs[377]? = some Tryz.f377 := Tryz.func377
  have hb : Tryz.f377.body = none := by kernel_rfl
  have hn : Tryz.f377.name ≠ "runtime.NumGoroutine" := name_of 377 _ hf
  have h1 : Extern.findNext Tryz.f377 = none := by kernel_rfl
  have h2 : Extern.find Tryz.f377 = some Extern.BytealgCompare.compare := by kernel_rfl
  show (callFunc 377 _).run Tryz.prog w = _
  simp only [callFunc, Sem.run_bind, run_program, Result.andThen_ok, hf, beq_iff_eq, hn, if_false, hb, Option.isNone_none, if_true, h1, h2]
  simp [hs, cmp_lib]
theorem byte_ld {rs : RS} {id : Nat} {s : Str} {i : Nat} (hi : i < lenN s) : ∀ h, cellsO h id = some (bytesCells s) → opLoad (Cs rs) h 5 (.ptrO id (Nat.add 0 (Nat.mul i (sizeT (Cs rs) 5)))) = some (.int .u8 (((byteAt s ((i : Nat) : Int)).toNat : Nat) : Int)) := by
  intro h hc
  have hz : sizeT (Cs rs) 5 = 1 := by kernel_rfl
  have hm : ∀ x, mkT (Cs rs) 5 [x] = some x := fun x => by kernel_rfl
  unfold opLoad readAt
  simp only
  rw [cellsO_at hc, hz, show Nat.add 0 (Nat.mul i 1) = i by show 0 + i * 1 = i; omega, bytes_nth (by rw [lenN_eq] at hi; exact hi)]
  exact hm _
def r18 : RS := addS r17 377 fun args => match args with | [.str a, .str b] => some (gI (cmpS a b), none) | _ => none
theorem r18_ok : RsOk r18 := RsOk.add r17_ok 377 fun _ _ _ e ho h => by
  split at e
  · cases e; exact f377_w _ _ h
  · cases e
theorem f300_w (a : Str) (b : Str) : ∀ h, CallOk CB 300 [.str a, .str b] h none (.val (gI (cmpS a b)) h none) :=
  pureS r18_ok Tryz.func300 <| K.r
def r19 : RS := addS r18 300 fun args => match args with | [.str a, .str b] => some (gI (cmpS a b), none) | _ => none
theorem r19_ok : RsOk r19 := RsOk.add r18_ok 300 fun _ _ _ e ho h => by
  split at e
  · cases e; exact f300_w _ _ h
  · cases e
theorem f210_w (a : Str) (b : Str) : ∀ h, CallOk CB 210 [.str a, .str b] h none (.val (gI (cmpS a b)) h none) :=
  pureS r19_ok Tryz.func210 <| K.r
def r20 : RS := addS r19 210 fun args => match args with | [.str a, .str b] => some (gI (cmpS a b), none) | _ => none
theorem r20_ok : RsOk r20 := RsOk.add r19_ok 210 fun _ _ _ e ho h => by
  split at e
  · cases e; exact f210_w _ _ h
  · cases e
def f120 (k : Int) (s : Str) : Nat → Nat → Int
  | _, 0 => 0
  | i, rr + 1 => (bif (bif (bif (k == 4) then ((((byteAt s ((i : Nat) : Int)).toNat : Nat) : Int) != 48) else false) then ((((byteAt s ((i : Nat) : Int)).toNat : Nat) : Int) != 49) else false) then 3 else (bif (bif (k == 6) then (bif decide ((((byteAt s ((i : Nat) : Int)).toNat : Nat) : Int) < 32) then true else decide ((((byteAt s ((i : Nat) : Int)).toNat : Nat) : Int) > 126)) else false) then 3 else f120 k s (i + 1) rr))
theorem f120_w (k : Int) (n : Int) (e : Int) (s : Str) (nn : List Str) (x : Bool) (ni : List Val) (y : Bool) (hP : s.length < big) : ∀ h, CallOk CB 120 [.agg [.int .i64 k, .int .i64 n, .int .i64 e, .str s, .slT .str nn x, .slT .val ni y]] h none (.val (gI (f120 k s 0 (lenN s))) h none) :=
  pureS r20_ok Tryz.func120 <| K.lc gI 9 (lenN s) (f120 k s) (hl_s hP) (fun i _ N0 hi0 => K.w1 hi0 <| K.ix 305 5 1 0 1 (lenN s) (lenN s) false hi0 (byte_ld hi0) <| K.g fun _ => K.z gI (fun _ => K.t <| K.r) (fun _ => K.g fun _ => K.z gI (fun _ => K.r) (fun _ => K.nc 9 N0 (hl_s hP) hi0))) (fun _ => K.w0 (lenN s) <| K.r)
def r21 : RS := addS r20 120 fun args => match args with | [.agg [.int .i64 k, .int .i64 _, .int .i64 _, .str s, .slT .str _ _, .slT .val _ _]] => some (gI (f120 k s 0 (lenN s)), some (s.length < big)) | _ => none
theorem r21_ok : RsOk r21 := RsOk.add r20_ok 120 fun _ _ _ e ho h => by
  split at e
  · cases e; exact f120_w _ _ _ _ _ _ _ _ ho h
  · cases e
theorem next_below {w w' : World} {F : Nat → Prop} (B : RowKit.Below w.heap.size w w') : Go.Abs.Next w F Map.none w' F Map.none where
  size := B.size
  os := B.os
  tape := B.tape
  output := B.output
  keep := fun b hb _ => B.block b hb
  map := Map.le_refl _
  new := fun id c o e => by cases e
  ro := fun b h => h
  roNew := fun b h => .inl h
  rows := fun id b o e => by cases e
/-- a call whose answer the kit tells, and that leaves memory as it was -/
theorem callOk_of {C : Cfg} {f : FuncId} {fn : Func} {c : Code} (hf : C.P.funcs[f]? = some fn) (hb : fn.body = some c) (hn : fn.name ≠ "runtime.NumGoroutine") (hd : C.nodef f = true) {args : List AV} (ha : noOwnL (noOwn deep) args = true) {v : AV} (h : Heap)
    (K : ∀ (w : World) (F : Nat → Prop) (vs : Array Value), GRel C w F → (∀ b, F b → b < w.heap.size) → RelL w F args Map.none vs.toList → Calls C.P f vs w fun e w' => ∃ u, e = .returned u ∧ RowKit.Below w.heap.size w w' ∧ Rel w' F v Map.none u) : CallOk C f args h none (.val v h none) := by
  intro w F μ vs G H r
  have r0 := noOwns_sound args vs.toList ha r
  refine .inr ⟨callFunc_body hf hb hn vs, fun kind cs hk hp => ?_⟩
  have hk : kind = .normal := by
    rcases hk with e | ⟨_, e⟩
    · exact e
    · rw [hd] at e; cases e
  subst hk
  obtain ⟨e, w', fr, ⟨u, rfl, B, ru⟩, st, h1, g1, g2, h2, g3⟩ := K w F vs G (fun b hb => (H.sep b hb).1) r0 cs
  have N := next_below (F := F) B
  have H' : HRel w' F Map.none Heap.empty := HRel.empty fun b hb => Nat.lt_of_lt_of_le (H.sep b hb).1 B.size
  have hp0 : PnR w F Map.none (kindFrame .normal) cs none := hp
  exact ⟨.returned u, fr, cs, w', frozenF F Map.none, μ, N.frozen H.dom, H.frozen N H', .inl ⟨rfl, rfl⟩, hp0, st, h1, h2, ⟨g1, g2, g3⟩, u, rfl, Rel.mono _ ⟨fun b hb => ⟨.inl hb, rfl⟩, Map.none_le _, fun _ _ _ e => by cases e⟩ _ ru⟩
theorem contains_dd : ∀ s : Str, Lib.contains s [45, 45] = hasDD s
  | [] => rfl
  | a :: l => by
    have ih := contains_dd l
    have hge := Lib.index_ge l [45, 45]
    unfold Lib.contains at ih ⊢
    rw [hasDD, ← ih, Lib.index]
    cases l with
    | nil => simp [Lib.index, List.isPrefixOf]
    | cons b l =>
      simp only [List.isPrefixOf, List.head?_cons, Option.some.injEq]
      by_cases h1 : a = 45
      · by_cases h2 : b = 45
        · subst h1; subst h2; simp
        · simp only [h1, h2]
          by_cases h3 : Lib.index (b :: l) [45, 45] = -1
          · rw [h3]; simp [Ne.symm h2]
          · have h4 : 0 ≤ Lib.index (b :: l) [45, 45] := by omega
            simp [h3, Ne.symm h2, h4]; omega
      · by_cases h3 : Lib.index (b :: l) [45, 45] = -1
        · rw [h3]; simp [h1, Ne.symm h1]
        · have h4 : 0 ≤ Lib.index (b :: l) [45, 45] := by omega
          simp [h1, Ne.symm h1, h3, h4]; omega
theorem f207_w (s : Str) (hP : s.length < 4294967281) : ∀ h, CallOk CB 207 [.str s, .str [45, 45]] h none (.val (gB (hasDD s)) h none) := fun h =>
  callOk_of (C := CB) (fn := Tryz.f207) (c := bodyOf Tryz.f207) Tryz.func207 (by kernel_rfl) (name_of 207 _ Tryz.func207) (by kernel_rfl) (by kernel_rfl) h fun w F vs G _ r => by
    obtain ⟨u, v, hu, ru, rv⟩ := relL_two r
    unfold Rel at ru rv
    subst ru; subst rv
    subst hu
    obtain ⟨_, m, hm⟩ := G.int 0 rfl
    refine (Any.strings_Contains Tryz.lays144 ⟨⟨s⟩⟩ ⟨⟨[45, 45]⟩⟩ m w hP hm).mono ?_
    rintro e w' ⟨rfl, rfl⟩
    exact ⟨_, rfl, RowKit.Below.refl _ _, by unfold gB Rel; rw [contains_dd]⟩
def r22 : RS := addS r21 207 fun args => match args with | [.str s, .str [45, 45]] => some (gB (hasDD s), some (s.length < 4294967281)) | _ => none
theorem r22_ok : RsOk r22 := RsOk.add r21_ok 207 fun _ _ _ e ho h => by
  split at e
  · cases e; exact f207_w _ ho h
  · cases e
def f121 (s : Str) : Nat → Nat → Bool
  | _, 0 => true
  | i, rr + 1 => (bif (bif (!(bif (bif decide (97 ≤ (((byteAt s ((i : Nat) : Int)).toNat : Nat) : Int)) then decide ((((byteAt s ((i : Nat) : Int)).toNat : Nat) : Int) ≤ 122) else false) then true else (bif decide (65 ≤ (((byteAt s ((i : Nat) : Int)).toNat : Nat) : Int)) then decide ((((byteAt s ((i : Nat) : Int)).toNat : Nat) : Int) ≤ 90) else false))) then (bif (((i : Nat) : Int) == 0) then true else (bif (bif ((((byteAt s ((i : Nat) : Int)).toNat : Nat) : Int) != 45) then ((((byteAt s ((i : Nat) : Int)).toNat : Nat) : Int) != 95) else false) then (bif decide ((((byteAt s ((i : Nat) : Int)).toNat : Nat) : Int) < 48) then true else decide ((((byteAt s ((i : Nat) : Int)).toNat : Nat) : Int) > 57)) else false)) else false) then false else f121 s (i + 1) rr)
def a121 (s : Str) : Bool := (bif (bif (bif (bif decide (((lenN s : Nat) : Int) < 1) then true else decide (((lenN s : Nat) : Int) > 32)) then true else a298 s [45]) then true else hasDD s) then false else f121 s 0 (lenN s))
theorem name_side {s : Str} {c : Bool} (h : (bif (bif decide (((lenN s : Nat) : Int) < 1) then true else decide (((lenN s : Nat) : Int) > 32)) then true else c) = false) : s.length < 4294967281 := by
  cases h1 : decide (((lenN s : Nat) : Int) > 32) with
  | true => rw [h1] at h; cases h2 : decide (((lenN s : Nat) : Int) < 1) <;> (rw [h2] at h; cases h)
  | false => have := of_decide_eq_false h1; rw [lenN_eq] at this; omega
theorem f121_w (s : Str) (hP : s.length < big) : ∀ h, CallOk CB 121 [.str s] h none (.val (gB (a121 s)) h none) :=
  pureS r22_ok Tryz.func121 <| K.i ((True ∧ ((bif decide (((lenN s : Nat) : Int) < 1) then true else decide (((lenN s : Nat) : Int) > 32)) = false → s.length < big)) ∧ ((bif (bif decide (((lenN s : Nat) : Int) < 1) then true else decide (((lenN s : Nat) : Int) > 32)) then true else a298 s [45]) = false → s.length < 4294967281)) ⟨⟨trivial, fun _ => hP⟩, fun h => name_side h⟩ fun _ => K.z gB (fun _ => K.r) (fun _ => K.lc gB 25 (lenN s) (f121 s) (hl_s hP) (fun i _ N0 hi0 => K.w1 hi0 <| K.ix 305 5 0 0 1 (lenN s) (lenN s) false hi0 (byte_ld hi0) <| K.g fun _ => K.g fun _ => K.z gB (fun _ => K.r) (fun _ => K.nc 25 N0 (hl_s hP) hi0)) (fun _ => K.w0 (lenN s) <| K.r))
def r23 : RS := addS r22 121 fun args => match args with | [.str s] => some (gB (a121 s), some (s.length < big)) | _ => none
theorem r23_ok : RsOk r23 := RsOk.add r22_ok 121 fun _ _ _ e ho h => by
  split at e
  · cases e; exact f121_w _ ho h
  · cases e
end
end Go.Abs
namespace Go.Abs
noncomputable section
open Go Go.Proofs
theorem strs_at {l : List Str} {i : Nat} (h : ∀ x ∈ l, x.length < big) (hi : i < l.length) : (sAt l i).length < big := by
  show (l.getD i default).length < big
  rw [List.getD_eq_getElem?_getD, List.getElem?_eq_getElem hi]
  exact h _ (List.getElem_mem hi)
theorem lt_of_ge {i n : Nat} (h : decide (((i : Nat) : Int) ≥ ((n : Nat) : Int)) = false) : i < n := by have := of_decide_eq_false h; omega
theorem ok6 {v : Val} (h : v.ok) : (mk6 v.kind v.n v.e v.s v.names v.items).ok := by
  unfold mk6; rw [Val.ok]
  exact ok_fields h
theorem scan2 {α β : Type} [Inhabited α] (l l2 : List α) (f : Nat → Nat → β) (G : List α → List α → β) (h0 : ∀ i, i = l.length → f i 0 = G [] (l2.drop i))
    (h1 : ∀ i m x r, i < l.length → l.getD i default = x → f (i + 1) m = G r (l2.drop (i + 1)) → f i (m + 1) = G (x :: r) (l2.drop i)) : f 0 l.length = G l l2 := by
  have key : ∀ m i, i + m = l.length → f i m = G (l.drop i) (l2.drop i) := by
    intro m
    induction m with
    | zero =>
      intro i hi
      rw [h0 i (by omega), List.drop_of_length_le (l := l) (by omega)]
    | succ m ih =>
      intro i hi
      have hlt : i < l.length := by omega
      rw [List.drop_eq_getElem_cons hlt]
      refine h1 i m _ _ hlt ?_ (ih (i + 1) (by omega))
      rw [List.getD_eq_getElem?_getD, List.getElem?_eq_getElem hlt]; rfl
  have := key l.length 0 (by omega)
  rwa [List.drop_zero, List.drop_zero] at this
theorem f123_w (s : Str) (hP : s.length < big) : ∀ h, CallOk CB 123 [.str s] h none (.val (gB ((!(a121 s)))) h none) :=
  pureS r23_ok Tryz.func123 <| K.i (True ∧ s.length < big) ⟨trivial, hP⟩ fun _ => K.r
def r24 : RS := addS r23 123 fun args => match args with | [.str s] => some (gB ((!(a121 s))), some (s.length < big)) | _ => none
theorem r24_ok : RsOk r24 := RsOk.add r23_ok 123 fun _ _ _ e ho h => by
  split at e
  · cases e; exact f123_w _ ho h
  · cases e
def f208 (l : List Str) : Nat → Nat → Int
  | _, 0 => (-1)
  | i, rr + 1 => (bif (!(a121 (sAt l i))) then ((i : Nat) : Int) else f208 l (i + 1) rr)
theorem f208_w (l : List Str) (lx : Bool) (hP : l.length < big ∧ ∀ z ∈ l, z.length < big) : ∀ h, CallOk CB 208 [.slT .str l lx, .fn (.func 123) [] []] h none (.val (gI (f208 l 0 l.length)) h none) :=
  pureS r24_ok Tryz.func208 <| K.lc gI 8 l.length (f208 l) hP.1 (fun i _ N0 hi0 => K.w1 hi0 <| K.i ((True ∧ Ix ((i : Nat) : Int) l) ∧ (sAt l i).length < big) ⟨⟨trivial, ix hi0⟩, strs_at hP.2 hi0⟩ fun _ => K.z gI (fun _ => K.r) (fun _ => K.nc 8 N0 hP.1 hi0)) (fun _ => K.w0 l.length <| K.r)
def r25 : RS := addS r24 208 fun args => match args with | [.slT .str l _, .fn (.func 123) [] []] => some (gI (f208 l 0 l.length), some (l.length < big ∧ ∀ z ∈ l, z.length < big)) | _ => none
theorem r25_ok : RsOk r25 := RsOk.add r24_ok 208 fun _ _ _ e ho h => by
  split at e
  · cases e; exact f208_w _ _ ho h
  · cases e
theorem f122_w (l : List Str) (lx : Bool) (hP : l.length < big ∧ ∀ z ∈ l, z.length < big) : ∀ h, CallOk CB 122 [.slT .str l lx, .fn (.func 123) [] []] h none (.val (gB (decide ((f208 l 0 l.length) ≥ 0))) h none) :=
  pureS r25_ok Tryz.func122 <| K.i (True ∧ l.length < big ∧ ∀ z ∈ l, z.length < big) ⟨trivial, hP⟩ fun _ => K.r
def r26 : RS := addS r25 122 fun args => match args with | [.slT .str l _, .fn (.func 123) [] []] => some (gB (decide ((f208 l 0 l.length) ≥ 0)), some (l.length < big ∧ ∀ z ∈ l, z.length < big)) | _ => none
theorem r26_ok : RsOk r26 := RsOk.add r25_ok 122 fun _ _ _ e ho h => by
  split at e
  · cases e; exact f122_w _ _ ho h
  · cases e
def f211 (l : List Str) (l2 : List Str) : Nat → Nat → Int
  | _, 0 => (bif ltB l.length l2.length then (-1) else 0)
  | i, rr + 1 => (bif decide (((i : Nat) : Int) ≥ ((l2.length : Nat) : Int)) then 1 else (bif ((a301 (sAt l i) (sAt l2 i)) != 0) then a301 (sAt l i) (sAt l2 i) else f211 l l2 (i + 1) rr))
theorem f211_w (l : List Str) (lx : Bool) (l2 : List Str) (l2x : Bool) (hP : l.length < big) : ∀ h, CallOk CB 211 [.slT .str l lx, .slT .str l2 l2x] h none (.val (gI (f211 l l2 0 l.length)) h none) :=
  pureS r26_ok Tryz.func211 <| K.lc gI 11 l.length (f211 l l2) hP (fun i _ N0 hi0 => K.w1 hi0 <| K.i (True ∧ Ix ((i : Nat) : Int) l) ⟨trivial, ix hi0⟩ fun _ => K.z gI (fun _ => K.r) (fun h1 => K.i (True ∧ Ix ((i : Nat) : Int) l2) ⟨trivial, ix (lt_of_ge h1)⟩ fun _ => K.z gI (fun _ => K.r) (fun _ => K.nc 11 N0 hP hi0))) (fun _ => K.w0 l.length <| K.z gI (fun _ => K.r) (fun _ => K.r))
def r27 : RS := addS r26 211 fun args => match args with | [.slT .str l _, .slT .str l2 _] => some (gI (f211 l l2 0 l.length), some (l.length < big)) | _ => none
theorem r27_ok : RsOk r27 := RsOk.add r26_ok 211 fun _ _ _ e ho h => by
  split at e
  · cases e; exact f211_w _ _ _ _ ho h
  · cases e
end
end Go.Abs
namespace Go.Abs
noncomputable section
open Go Go.Proofs
theorem cmpV_6 (a b : Val) : cmpV (mk6 a.kind a.n a.e a.s a.names a.items) (mk6 b.kind b.n b.e b.s b.names b.items) = cmpV a b := by
  cases a; cases b; unfold mk6; rw [cmpV, cmpV]; rfl
theorem less_cmp : ∀ a b : Str, Op.bytesLess a b = decide (cmpS a b < 0)
  | [], [] => rfl
  | [], _ :: _ => rfl
  | _ :: _, [] => rfl
  | a :: l, b :: k => by
    have ih := less_cmp l k
    rw [cmpS]
    unfold Op.bytesLess orC cmpI
    by_cases h1 : a < b
    · have h : ((a.toNat : Nat) : Int) < ((b.toNat : Nat) : Int) := by have := UInt8.lt_iff_toNat_lt.1 h1; omega
      rw [decide_eq_true h]; simp [h1]
    · have h : ¬ ((a.toNat : Nat) : Int) < ((b.toNat : Nat) : Int) := fun h => h1 (UInt8.lt_iff_toNat_lt.2 (by omega))
      rw [decide_eq_false h]
      by_cases h2 : b < a
      · have h : ((b.toNat : Nat) : Int) < ((a.toNat : Nat) : Int) := by have := UInt8.lt_iff_toNat_lt.1 h2; omega
        have hne : ¬ a = b := fun e => by subst e; omega
        rw [decide_eq_true h]; simp [h1, hne]
      · have h : ¬ ((b.toNat : Nat) : Int) < ((a.toNat : Nat) : Int) := fun h => h2 (UInt8.lt_iff_toNat_lt.2 (by omega))
        obtain rfl : a = b := UInt8.toNat_inj.1 (by omega)
        rw [decide_eq_false h]; simp [ih]
theorem cmpS_range (a b : Str) : cmpS a b = -1 ∨ cmpS a b = 0 ∨ cmpS a b = 1 := by
  induction a generalizing b with
  | nil => cases b <;> simp [cmpS]
  | cons x a ih =>
    cases b with
    | nil => simp [cmpS]
    | cons y b =>
      rw [cmpS]
      unfold orC
      by_cases h : cmpI x.toNat y.toNat != 0
      · rw [h]
        simp only [cond_true]
        unfold cmpI
        by_cases h1 : ((x.toNat : Nat) : Int) < ((y.toNat : Nat) : Int)
        · rw [decide_eq_true h1]; exact .inl rfl
        · rw [decide_eq_false h1]
          by_cases h2 : ((y.toNat : Nat) : Int) < ((x.toNat : Nat) : Int)
          · rw [decide_eq_true h2]; exact .inr (.inr rfl)
          · rw [decide_eq_false h2]; exact .inr (.inl rfl)
      · rw [Bool.not_eq_true] at h; rw [h]; exact ih b
theorem a301_eq (a b : Str) : a301 a b = cmpS a b := by
  unfold a301
  rw [beq_self, beq_self, less_cmp]
  simp only [Bool.not_true, cond_false]
  have e : beqBytes a b = decide (cmpS a b = 0) := by
    rw [beqBytes_eq]
    by_cases h : a = b
    · rw [decide_eq_true (cmpS_zero.2 h)]; simpa using h
    · rw [decide_eq_false (fun h2 => h (cmpS_zero.1 h2))]; simpa using h
  rw [e]
  rcases cmpS_range a b with h | h | h <;> rw [h] <;> rfl
def s126 : List AV → Option AV := fun args => match args with | [.agg [.int .i64 k, .int .i64 n, .int .i64 e, .str s, .slT .str nn _, .slT .val ni _], .agg [.int .i64 k2, .int .i64 n2, .int .i64 e2, .str s2, .slT .str nn2 _, .slT .val ni2 _]] => some (gI (cmpV (mk6 k n e s nn ni) (mk6 k2 n2 e2 s2 nn2 ni2))) | _ => none
def q126 : RS := addS r27 126 (selfS 126 s126)
theorem q126_ok : RsOk q126 := r27_ok.add 126 selfS_ok
/-- it is so, of values that stand in a list -/
def Ok126 (a b : Val) : Prop := ∀ h, CallOk CB 126 [.agg [.int .i64 a.kind, .int .i64 a.n, .int .i64 a.e, .str a.s, .slT .str a.names false, .slT .val a.items false], .agg [.int .i64 b.kind, .int .i64 b.n, .int .i64 b.e, .str b.s, .slT .str b.names false, .slT .val b.items false]] h none (.val (gI (cmpV (mk6 a.kind a.n a.e a.s a.names a.items) (mk6 b.kind b.n b.e b.s b.names b.items))) h none)
def f212 (l : List Val) (l2 : List Val) : Nat → Nat → Int
  | _, 0 => (bif ltB l.length l2.length then (-1) else 0)
  | i, rr + 1 => (bif decide (((i : Nat) : Int) ≥ ((l2.length : Nat) : Int)) then 1 else (bif ((cmpV (mk6 ((vAt l i).kind) ((vAt l i).n) ((vAt l i).e) ((vAt l i).s) ((vAt l i).names) ((vAt l i).items)) (mk6 ((vAt l2 i).kind) ((vAt l2 i).n) ((vAt l2 i).e) ((vAt l2 i).s) ((vAt l2 i).names) ((vAt l2 i).items))) != 0) then cmpV (mk6 ((vAt l i).kind) ((vAt l i).n) ((vAt l i).e) ((vAt l i).s) ((vAt l i).names) ((vAt l i).items)) (mk6 ((vAt l2 i).kind) ((vAt l2 i).n) ((vAt l2 i).e) ((vAt l2 i).s) ((vAt l2 i).names) ((vAt l2 i).items)) else f212 l l2 (i + 1) rr))
theorem f212_eq (l l2 : List Val) : f212 l l2 0 l.length = cmpL l l2 := by
  refine scan2 l l2 (f212 l l2) cmpL (fun i hi => ?_) (fun i m x r hi hx ih => ?_)
  · show (bif ltB l.length l2.length then (-1 : Int) else 0) = _
    subst hi
    unfold ltB
    by_cases h : l.length < l2.length
    · rw [decide_eq_true (by omega), List.drop_eq_getElem_cons h, cmpL]; rfl
    · rw [decide_eq_false (by omega), List.drop_of_length_le (by omega), cmpL]; rfl
  · show (bif decide (((i : Nat) : Int) ≥ ((l2.length : Nat) : Int)) then (1 : Int) else bif _ != 0 then _ else f212 l l2 (i + 1) m) = _
    rw [cmpV_6, ih]
    by_cases h : i < l2.length
    · rw [decide_eq_false (by omega), List.drop_eq_getElem_cons h, cmpL]
      have e1 : vAt l i = x := hx
      rw [e1, vAt_get h]
      rfl
    · rw [decide_eq_true (by omega), List.drop_of_length_le (i := i) (l := l2) (by omega)]; rfl
theorem f212_w (l : List Val) (lx : Bool) (l2 : List Val) (l2x : Bool) (hP : l.length < big ∧ ∀ i, i < l.length → i < l2.length → Ok126 (vAt l i) (vAt l2 i)) : ∀ h, CallOk CB 212 [.slT .val l lx, .slT .val l2 l2x, .fn (.func 126) [] []] h none (.val (gI (cmpL l l2)) h none) :=
  pureS q126_ok Tryz.func212 <| K.e ((congrArg gI (f212_eq l l2)).symm) <| K.lc gI 13 l.length (f212 l l2) hP.1 (fun i _ N0 hi0 => K.w1 hi0 <| K.i (True ∧ Ix ((i : Nat) : Int) l) ⟨trivial, ix hi0⟩ fun _ => K.z gI (fun _ => K.r) (fun h1 => K.i (True ∧ Ix ((i : Nat) : Int) l2) ⟨trivial, ix (lt_of_ge h1)⟩ fun _ => K.i (True ∧ ∀ h, CallOk CB 126 [.agg [.int .i64 ((vAt l i).kind), .int .i64 ((vAt l i).n), .int .i64 ((vAt l i).e), .str ((vAt l i).s), .slT .str ((vAt l i).names) false, .slT .val ((vAt l i).items) false], .agg [.int .i64 ((vAt l2 i).kind), .int .i64 ((vAt l2 i).n), .int .i64 ((vAt l2 i).e), .str ((vAt l2 i).s), .slT .str ((vAt l2 i).names) false, .slT .val ((vAt l2 i).items) false]] h none (.val (gI (cmpV (mk6 ((vAt l i).kind) ((vAt l i).n) ((vAt l i).e) ((vAt l i).s) ((vAt l i).names) ((vAt l i).items)) (mk6 ((vAt l2 i).kind) ((vAt l2 i).n) ((vAt l2 i).e) ((vAt l2 i).s) ((vAt l2 i).names) ((vAt l2 i).items)))) h none)) ⟨trivial, hP.2 i hi0 (lt_of_ge h1)⟩ fun _ => K.z gI (fun _ => K.r) (fun _ => K.nc 13 N0 hP.1 hi0))) (fun _ => K.w0 l.length <| K.z gI (fun _ => K.r) (fun _ => K.r))
def r28 : RS := addS q126 212 fun args => match args with | [.slT .val l _, .slT .val l2 _, .fn (.func 126) [] []] => some (gI (cmpL l l2), some (l.length < big ∧ ∀ i, i < l.length → i < l2.length → Ok126 (vAt l i) (vAt l2 i))) | _ => none
theorem r28_ok : RsOk r28 := RsOk.add q126_ok 212 fun _ _ _ e ho h => by
  split at e
  · cases e; exact f212_w _ _ _ _ ho h
  · cases e
def f126 (k : Int) (n : Int) (e : Int) (s : Str) (nn : List Str) (ni : List Val) (k2 : Int) (n2 : Int) (e2 : Int) (s2 : Str) (nn2 : List Str) (ni2 : List Val) : Nat → Nat → Int
  | 0, rr + 1 => (bif (k != k2) then (bif decide (k < k2) then (-1) else 1) else f126 k n e s nn ni k2 n2 e2 s2 nn2 ni2 1 rr)
  | 1, rr + 1 => (bif (n != n2) then (bif decide (n < n2) then (-1) else 1) else f126 k n e s nn ni k2 n2 e2 s2 nn2 ni2 2 rr)
  | 2, rr + 1 => (bif (e != e2) then (bif decide (e < e2) then (-1) else 1) else f126 k n e s nn ni k2 n2 e2 s2 nn2 ni2 3 rr)
  | _, _ => (bif ((cmpS s s2) != 0) then cmpS s s2 else (bif ((f211 nn nn2 0 nn.length) != 0) then f211 nn nn2 0 nn.length else cmpL ni ni2))
theorem f211_eq (l l2 : List Str) : f211 l l2 0 l.length = cmpN l l2 := by
  refine scan2 l l2 (f211 l l2) cmpN (fun i hi => ?_) (fun i m x r hi hx ih => ?_)
  · show (bif ltB l.length l2.length then (-1 : Int) else 0) = _
    subst hi
    unfold ltB
    by_cases h : l.length < l2.length
    · rw [decide_eq_true (by omega), List.drop_eq_getElem_cons h, cmpN]; rfl
    · rw [decide_eq_false (by omega), List.drop_of_length_le (by omega), cmpN]; rfl
  · show (bif decide (((i : Nat) : Int) ≥ ((l2.length : Nat) : Int)) then (1 : Int) else bif (a301 (sAt l i) (sAt l2 i)) != 0 then (a301 (sAt l i) (sAt l2 i)) else f211 l l2 (i + 1) m) = _
    rw [a301_eq, ih]
    by_cases h : i < l2.length
    · rw [decide_eq_false (by omega), List.drop_eq_getElem_cons h, cmpN]
      have e1 : sAt l i = x := hx
      rw [e1, sAt_get h]
      rfl
    · rw [decide_eq_true (by omega), List.drop_of_length_le (i := i) (l := l2) (by omega)]; rfl
theorem cmpI_ne (a b : Int) (r : Int) : (bif a != b then (bif decide (a < b) then (-1 : Int) else 1) else r) = orC (cmpI a b) r := by
  unfold orC cmpI
  by_cases h1 : a < b
  · rw [decide_eq_true h1, show (a != b) = true by simp only [bne_iff_ne, ne_eq]; omega]; rfl
  · rw [decide_eq_false h1]
    by_cases h2 : b < a
    · rw [decide_eq_true h2, show (a != b) = true by simp only [bne_iff_ne, ne_eq]; omega]; rfl
    · obtain rfl : a = b := by omega
      rw [decide_eq_false h2, show (a != a) = false by simp]; rfl
theorem f126_eq (k n e : Int) (s : Str) (nn : List Str) (ni : List Val) (k2 n2 e2 : Int) (s2 : Str) (nn2 : List Str) (ni2 : List Val) : cmpV (mk6 k n e s nn ni) (mk6 k2 n2 e2 s2 nn2 ni2) = f126 k n e s nn ni k2 n2 e2 s2 nn2 ni2 0 3 := by
  show _ = (bif k != k2 then (bif decide (k < k2) then (-1 : Int) else 1) else bif n != n2 then (bif decide (n < n2) then (-1 : Int) else 1) else bif e != e2 then (bif decide (e < e2) then (-1 : Int) else 1) else bif cmpS s s2 != 0 then cmpS s s2 else bif f211 nn nn2 0 nn.length != 0 then f211 nn nn2 0 nn.length else cmpL ni ni2)
  rw [f211_eq, cmpI_ne, cmpI_ne, cmpI_ne]
  unfold mk6
  rw [cmpV]
  rfl
theorem f126_v (k : Int) (n : Int) (e : Int) (s : Str) (nn : List Str) (x : Bool) (ni : List Val) (y : Bool) (k2 : Int) (n2 : Int) (e2 : Int) (s2 : Str) (nn2 : List Str) (x2 : Bool) (ni2 : List Val) (y2 : Bool) (hP : (nn.length < big ∧ ni.length < big) ∧ ∀ i, i < ni.length → i < ni2.length → Ok126 (vAt ni i) (vAt ni2 i)) : ∀ h, CallOk CB 126 [.agg [.int .i64 k, .int .i64 n, .int .i64 e, .str s, .slT .str nn x, .slT .val ni y], .agg [.int .i64 k2, .int .i64 n2, .int .i64 e2, .str s2, .slT .str nn2 x2, .slT .val ni2 y2]] h none (.val (gI (cmpV (mk6 k n e s nn ni) (mk6 k2 n2 e2 s2 nn2 ni2))) h none) :=
  Classical.byContradiction fun hN => hN (pureS (hs := specOf_off hN) r28_ok Tryz.func126 <| K.e (congrArg gI (f126_eq k n e s nn ni k2 n2 e2 s2 nn2 ni2)) <| K.lc gI 26 3 (f126 k n e s nn ni k2 n2 e2 s2 nn2 ni2) (by decide) (fun i _ N0 hi0 => match i, N0, hi0 with | 0, N0, hi0 => K.t <| K.st 1 <| K.z gI (fun _ => K.z gI (fun _ => K.r) (fun _ => K.r)) (fun _ => K.nc 26 N0 (by decide) hi0) | 1, N0, hi0 => K.t <| K.st 1 <| K.z gI (fun _ => K.z gI (fun _ => K.r) (fun _ => K.r)) (fun _ => K.nc 26 N0 (by decide) hi0) | 2, N0, hi0 => K.t <| K.st 1 <| K.z gI (fun _ => K.z gI (fun _ => K.r) (fun _ => K.r)) (fun _ => K.nc 26 N0 (by decide) hi0) | _ + 3, _, h => absurd h (by omega)) (fun _ => K.f <| K.z gI (fun _ => K.r) (fun _ => K.i (True ∧ nn.length < big) ⟨trivial, hP.1.1⟩ fun _ => K.z gI (fun _ => K.r) (fun _ => K.i (True ∧ ni.length < big ∧ ∀ i, i < ni.length → i < ni2.length → Ok126 (vAt ni i) (vAt ni2 i)) ⟨trivial, ⟨hP.1.2, hP.2⟩⟩ fun _ => K.r))))
theorem f126_w : ∀ (k : Int) (n : Int) (e : Int) (s : Str) (nn : List Str) (x : Bool) (ni : List Val) (y : Bool) (k2 : Int) (n2 : Int) (e2 : Int) (s2 : Str) (nn2 : List Str) (x2 : Bool) (ni2 : List Val) (y2 : Bool) (hP : (mk6 k n e s nn ni).ok) (h : Heap), CallOk CB 126 [.agg [.int .i64 k, .int .i64 n, .int .i64 e, .str s, .slT .str nn x, .slT .val ni y], .agg [.int .i64 k2, .int .i64 n2, .int .i64 e2, .str s2, .slT .str nn2 x2, .slT .val ni2 y2]] h none (.val (gI (cmpV (mk6 k n e s nn ni) (mk6 k2 n2 e2 s2 nn2 ni2))) h none) := by
  have key : ∀ d (v : Val), v.dep < d → v.ok → ∀ (x y : Bool) (k2 : Int) (n2 : Int) (e2 : Int) (s2 : Str) (nn2 : List Str) (x2 : Bool) (ni2 : List Val) (y2 : Bool), ∀ h, CallOk CB 126 [.agg [.int .i64 v.kind, .int .i64 v.n, .int .i64 v.e, .str v.s, .slT .str v.names x, .slT .val v.items y], .agg [.int .i64 k2, .int .i64 n2, .int .i64 e2, .str s2, .slT .str nn2 x2, .slT .val ni2 y2]] h none (.val (gI (cmpV (mk6 v.kind v.n v.e v.s v.names v.items) (mk6 k2 n2 e2 s2 nn2 ni2))) h none) := by
    intro d
    induction d with
    | zero => intro v hv; exact absurd hv (Nat.not_lt_zero _)
    | succ d ih =>
      intro v hv ho x y k2 n2 e2 s2 nn2 x2 ni2 y2
      have o := ok_fields ho
      refine f126_v _ _ _ _ _ _ _ _ _ _ _ _ _ _ _ _ ⟨⟨o.2.1, o.2.2.1⟩, fun i hi hi2 => ?_⟩
      refine ih (vAt v.items i) ?_ (okL_at o.2.2.2.1 hi) false false _ _ _ _ _ _ _ _
      have : (vAt v.items i).dep ≤ depL v.items := depL_at hi
      have e : v.dep = depL v.items + 1 := by cases v; rw [Val.dep]; rfl
      omega
  intro k n e s nn x ni y k2 n2 e2 s2 nn2 x2 ni2 y2 hP
  exact key _ (mk6 k n e s nn ni) (Nat.lt_succ_self _) hP x y k2 n2 e2 s2 nn2 x2 ni2 y2
def r29 : RS := addS r27 126 fun args => match args with | [.agg [.int .i64 k, .int .i64 n, .int .i64 e, .str s, .slT .str nn _, .slT .val ni _], .agg [.int .i64 k2, .int .i64 n2, .int .i64 e2, .str s2, .slT .str nn2 _, .slT .val ni2 _]] => some (gI (cmpV (mk6 k n e s nn ni) (mk6 k2 n2 e2 s2 nn2 ni2)), some ((mk6 k n e s nn ni).ok)) | _ => none
theorem r29_ok : RsOk r29 := RsOk.add r27_ok 126 fun _ _ _ e ho h => by
  split at e
  · cases e; exact f126_w _ _ _ _ _ _ _ _ _ _ _ _ _ _ _ _ ho h
  · cases e
end
end Go.Abs
namespace Go.Abs
noncomputable section
open Go Go.Proofs
def cD (l : List Val) (i : Nat) : Int := ((l.length : Nat) : Int) - 1 - ((i : Nat) : Int)
def m6 (v : Val) : Val := mk6 v.kind v.n v.e v.s v.names v.items
def f125 (l : List Val) : Nat → Nat → Bool
  | _, 0 => true
  | i, rr + 1 => (bif decide (cmpV (m6 (vAt l (cD l i).toNat)) (m6 (vAt l (wrapF .i64 (cD l i - 1)).toNat)) < 0) then false else f125 l (i + 1) rr)
theorem wrap64 {n : Int} (h1 : -9223372036854775808 ≤ n) (h2 : n ≤ 9223372036854775807) : wrapF .i64 n = n := by
  unfold wrapF
  have : inR64 n = true := by
    cases n with
    | ofNat k => exact Nat.ble_eq_true_of_le (by have h2 : ((k : Nat) : Int) ≤ 9223372036854775807 := h2; omega)
    | negSucc k => exact Nat.ble_eq_true_of_le (by omega)
  simp only [this, cond_true]
theorem ixI {n : Int} {l : List Val} (h1 : 0 ≤ n) (h2 : n < ((l.length : Nat) : Int)) : Ix n l := ⟨h1, h2⟩
theorem okI {l : List Val} {n : Int} (h : okL l) (h1 : 0 ≤ n) (h2 : n < ((l.length : Nat) : Int)) : (m6 (vAt l n.toNat)).ok := ok6 (okL_at h (by omega))
theorem f125_w (l : List Val) (lx : Bool) (hP : l.length < big ∧ okL l) : ∀ h, CallOk CB 125 [.slT .val l lx, .fn (.func 126) [] []] h none (.val (gB (f125 l 0 (l.length - 1))) h none) :=
  have hb : l.length ≤ 9223372036854775807 := by have := hP.1; unfold big at this; omega
  pureS r29_ok Tryz.func125 <| K.p 5 (congrArg (AV.int .i64) (show wrapF .i64 (((l.length : Nat) : Int) - 1) = cD l 0 by rw [wrap64 (by omega) (by omega)]; unfold cD; omega)) <|
    K.l (α := Unit) (l.length - 1) (fun B i _ => B.put 5 (.int .i64 (cD l i))) (fun _ _ => True) (fun i _ => gB (f125 l i (l.length - 1 - i))) () (Nat.lt_of_le_of_lt (Nat.sub_le _ _) hP.1) trivial fun i _ Rn N hi _ => by
      rcases Nat.lt_or_ge i (l.length - 1) with hlt | hge
      · have e : l.length - 1 - i = l.length - 1 - (i + 1) + 1 := by omega
        have h1 : 1 ≤ cD l i := by unfold cD; omega
        have h2 : cD l i < ((l.length : Nat) : Int) := by unfold cD; omega
        have h3 : wrapF .i64 (cD l i - 1) = cD l i - 1 := wrap64 (by omega) (by omega)
        have h4 : cD l i - 1 = cD l (i + 1) := by unfold cD; omega
        show KV _ _ _ _ _ (gB (f125 l i (l.length - 1 - i)))
        rw [e]
        exact K.b (b := decide (cD l i > 0)) (b' := true) (decide_eq_true (by omega)) <| K.d (((True ∧ Ix (cD l i) l) ∧ Ix (wrapF .i64 (cD l i - 1)) l) ∧ (m6 (vAt l (cD l i).toNat)).ok) ⟨⟨⟨trivial, ixI (by omega) h2⟩, ixI (by rw [h3]; omega) (by rw [h3]; omega)⟩, okI hP.2 (by omega) h2⟩ <|
          K.z gB (fun _ => K.r) (fun _ => K.p 5 (congrArg (AV.int .i64) (h3.trans h4)) <| K.n N () hlt trivial)
      · obtain rfl : i = l.length - 1 := by omega
        show KV _ _ _ _ _ (gB (f125 l (l.length - 1) (l.length - 1 - (l.length - 1))))
        rw [Nat.sub_self]
        exact K.b (b := decide (cD l (l.length - 1) > 0)) (b' := false) (decide_eq_false (by unfold cD; omega)) <| K.r
structure ShA where
  low : Int
  high : Int
  text : Bool
  names : Bool
  items : Bool
  most : Int
  one : Bool
  sorted : Bool
  inside : Bool
  ok : Bool
def gS (p : ShA) : AV := .tup [.agg [.int .i64 p.low, .int .i64 p.high, .bool p.text, .bool p.names, .bool p.items, .int .i64 p.most, .bool p.one, .bool p.sorted, .bool p.inside], .bool p.ok]
def r30 : RS := addS r29 125 fun args => match args with | [.slT .val l _, .fn (.func 126) [] []] => some (gB (f125 l 0 (l.length - 1)), some (l.length < big ∧ okL l)) | _ => none
theorem r30_ok : RsOk r30 := RsOk.add r29_ok 125 fun _ _ _ e ho h => by
  split at e
  · cases e; exact f125_w _ _ ho h
  · cases e
def a119 (k : Int) : ShA := (bif (k == 1) then (⟨0, 1, false, false, false, 0, false, false, false, true⟩ : ShA) else (bif (k == 2) then (⟨(-1152921504606846976), 1152921504606846976, false, false, false, 0, false, false, true, true⟩ : ShA) else (bif (k == 3) then (⟨0, 0, true, false, false, 0, false, false, false, true⟩ : ShA) else (bif (k == 4) then (⟨0, 0, true, false, false, 0, false, false, false, true⟩ : ShA) else (bif (k == 5) then (⟨0, 0, true, false, false, 0, false, false, false, true⟩ : ShA) else (bif (k == 6) then (⟨0, 0, true, false, false, 0, false, false, false, true⟩ : ShA) else (bif (k == 9) then (⟨0, 0, false, true, true, 16, false, false, false, true⟩ : ShA) else (bif (k == 10) then (⟨0, 0, false, false, true, 40, false, false, false, true⟩ : ShA) else (bif (k == 11) then (⟨0, 0, false, false, true, 40, false, true, false, true⟩ : ShA) else (bif (k == 12) then (⟨0, 0, false, true, true, 1, true, false, false, true⟩ : ShA) else (bif (k == 14) then (⟨0, 4, false, false, false, 0, false, false, false, true⟩ : ShA) else (⟨0, 0, false, false, false, 0, false, false, false, false⟩ : ShA))))))))))))
theorem f119_w (k : Int) : ∀ h, CallOk CB 119 [.int .i64 k] h none (.val (gS (a119 k)) h none) :=
  pureS r30_ok Tryz.func119 <| K.z gS (fun _ => K.r) (fun _ => K.z gS (fun _ => K.r) (fun _ => K.z gS (fun _ => K.t <| K.r) (fun _ => K.z gS (fun _ => K.t <| K.r) (fun _ => K.z gS (fun _ => K.t <| K.r) (fun _ => K.z gS (fun _ => K.r) (fun _ => K.z gS (fun _ => K.r) (fun _ => K.z gS (fun _ => K.r) (fun _ => K.z gS (fun _ => K.r) (fun _ => K.z gS (fun _ => K.r) (fun _ => K.z gS (fun _ => K.r) (fun _ => K.r)))))))))))
def r31 : RS := addS r30 119 fun args => match args with | [.int .i64 k] => some (gS (a119 k), none) | _ => none
theorem r31_ok : RsOk r31 := RsOk.add r30_ok 119 fun _ _ _ e ho h => by
  split at e
  · cases e; exact f119_w _ h
  · cases e
def f82 (k : Int) (nn : List Str) (ni : List Val) : Nat → Nat → Int
  | _, 0 => (bif (bif (a119 k).sorted then (!(f125 ni 0 (ni.length - 1))) else false) then 14 else 0)
  | i, rr + 1 => (bif decide ((f209 (nn.take i) (sAt nn i) 0 (nn.take i).length) ≥ 0) then 13 else f82 k nn ni (i + 1) rr)
def a82 (k : Int) (n : Int) (e : Int) (s : Str) (nn : List Str) (ni : List Val) : Int := (bif (!((a119 k).ok)) then 4 else (bif (e != 0) then 5 else (bif (bif (!((a119 k).text)) then !(beqBytes s []) else false) then 5 else (bif (bif (!((a119 k).names)) then decide (((nn.length : Nat) : Int) > 0) else false) then 5 else (bif (bif (!((a119 k).items)) then decide (((ni.length : Nat) : Int) > 0) else false) then 5 else (bif (bif (!((a119 k).inside)) then (bif decide (n < ((a119 k).low)) then true else decide (n > ((a119 k).high))) else false) then 5 else (bif (bif (a119 k).names then (((nn.length : Nat) : Int) != ((ni.length : Nat) : Int)) else false) then 6 else (bif (bif (a119 k).one then (((ni.length : Nat) : Int) != 1) else false) then 6 else (bif decide (((lenN s : Nat) : Int) > 200) then 2 else (bif (bif (a119 k).items then decide (((ni.length : Nat) : Int) > ((a119 k).most)) else false) then 2 else (bif decide (n < ((a119 k).low)) then 3 else (bif decide (n > ((a119 k).high)) then 3 else (bif ((f120 k s 0 (lenN s)) != 0) then f120 k s 0 (lenN s) else (bif (bif (bif (k == 3) then (!(a121 s)) else false) then true else decide ((f208 nn 0 nn.length) ≥ 0)) then 7 else f82 k nn ni 0 nn.length))))))))))))))
theorem take_lt {α : Type} {l : List α} (i : Nat) (h : l.length < big) : (l.take i).length < big := by rw [List.length_take]; omega
theorem f82_w (k : Int) (n : Int) (e : Int) (s : Str) (nn : List Str) (x : Bool) (ni : List Val) (y : Bool) (hP : (mk6 k n e s nn ni).ok) : ∀ h, CallOk CB 82 [.agg [.int .i64 k, .int .i64 n, .int .i64 e, .str s, .slT .str nn x, .slT .val ni y]] h none (.val (gI (a82 k n e s nn ni)) h none) :=
  pureS r31_ok Tryz.func82 <| K.z gI (fun _ => K.r) (fun _ => K.z gI (fun _ => K.t <| K.r) (fun _ => K.g fun _ => K.z gI (fun _ => K.t <| K.r) (fun _ => K.g fun _ => K.z gI (fun _ => K.t <| K.r) (fun _ => K.g fun _ => K.z gI (fun _ => K.t <| K.r) (fun _ => K.g fun _ => K.z gI (fun _ => K.r) (fun _ => K.g fun _ => K.z gI (fun _ => K.t <| K.r) (fun _ => K.g fun _ => K.z gI (fun _ => K.r) (fun _ => K.z gI (fun _ => K.t <| K.r) (fun _ => K.g fun _ => K.z gI (fun _ => K.r) (fun _ => K.z gI (fun _ => K.t <| K.r) (fun _ => K.z gI (fun _ => K.r) (fun _ => K.i (True ∧ s.length < big) ⟨trivial, (ok_of hP).1⟩ fun _ => K.z gI (fun _ => K.r) (fun _ => K.i ((True ∧ ((k == 3) = true → s.length < big)) ∧ ((bif (k == 3) then (!(a121 s)) else false) = false → nn.length < big ∧ ∀ z ∈ nn, z.length < big)) ⟨⟨trivial, fun _ => (ok_of hP).1⟩, fun _ => ⟨(ok_of hP).2.1, (ok_of hP).2.2.2.2⟩⟩ fun _ => K.z gI (fun _ => K.r) (fun _ => K.lc gI 132 nn.length (f82 k nn ni) (ok_of hP).2.1 (fun i _ N0 hi0 => K.w1 hi0 <| K.i (True ∧ Ix ((i : Nat) : Int) nn) ⟨trivial, ix hi0⟩ fun _ => K.i ((True ∧ 0 ≤ ((i : Nat) : Int) ∧ ((i : Nat) : Int) ≤ ((nn.length : Nat) : Int)) ∧ (nn.take i).length < big) ⟨⟨trivial, ⟨by omega, by omega⟩⟩, take_lt i (ok_of hP).2.1⟩ fun _ => K.z gI (fun _ => K.r) (fun _ => K.nc 132 N0 (ok_of hP).2.1 hi0)) (fun _ => K.w0 nn.length <| K.i (True ∧ ((a119 k).sorted = true → ni.length < big ∧ okL ni)) ⟨trivial, fun _ => ⟨(ok_of hP).2.2.1, (ok_of hP).2.2.2.1⟩⟩ fun _ => K.z gI (fun _ => K.r) (fun _ => K.r))))))))))))))))
def r32 : RS := addS r31 82 fun args => match args with | [.agg [.int .i64 k, .int .i64 n, .int .i64 e, .str s, .slT .str nn _, .slT .val ni _]] => some (gI (a82 k n e s nn ni), some ((mk6 k n e s nn ni).ok)) | _ => none
theorem r32_ok : RsOk r32 := RsOk.add r31_ok 82 fun _ _ _ e ho h => by
  split at e
  · cases e; exact f82_w _ _ _ _ _ _ _ _ ho h
  · cases e
end
end Go.Abs
