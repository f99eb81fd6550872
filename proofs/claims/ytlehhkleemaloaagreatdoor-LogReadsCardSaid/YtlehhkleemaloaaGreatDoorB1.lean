/- A part of the proofs of the laws of logs: see the last text of this claim. -/
import Derived.Test.YtlehhkleemaloaaGreatDoorProg
import Derived.KernelRfl
import Derived.Lib.ItoaNum
import Derived.Test.YtlehhkleemaloaaGreatDoorA3
import Derived.Test.YtlehhkleemaloaaGreatDoorB0
namespace Go.Abs
noncomputable section
open Go Go.Proofs
noncomputable def memN (l : List Nat) (f : Nat) : Bool := List.rec false (fun a _ ih => bif Nat.beq a f then true else ih) l
/-- the functions that are run over a heap of their own -/
noncomputable def pureG (f : Nat) : Bool := memN [17, 39, 42, 41, 21, 10, 14, 40, 58, 38, 83, 84, 110, 32, 9, 33, 15, 16, 18, 20, 19, 25, 52, 74, 93, 94, 4, 22, 11, 12, 34, 35, 36, 43, 3, 70, 91, 118, 71, 72, 23, 24, 5, 27, 28, 7, 6] f
noncomputable def own1G (f : Nat) : Bool := memN [37, 59, 60, 85, 44, 45, 46, 47, 48, 49, 50, 51, 73] f
noncomputable def pow10s : List AV := [.int .u64 1,.int .u64 10,.int .u64 100,.int .u64 1000,.int .u64 10000,.int .u64 100000,.int .u64 1000000,.int .u64 10000000,.int .u64 100000000,.int .u64 1000000000,.int .u64 10000000000]
noncomputable def globG (g : Nat) : AV := bif Nat.beq g 2 then .ptrR pow10s 0 else bif Nat.ble g 1 then .ptrR [.ifc 349 .dead] 0 else .dead
noncomputable def extG (f : Nat) : Option Ext := bif Nat.beq f 111 then some .same else none
/-- what strconv.Atoi hands back -/
noncomputable def atoiR (p : List UInt8) : AV := match Lib.atoiAll p with | .ok v => .tup [.int .i64 v, .nili] | .range => .tup [.int .i64 (Lib.atoiSat p), .ifc 210 .dead] | _ => .tup [.int .i64 0, .ifc 210 .dead]
noncomputable def spec8 (args : List AV) : Option AV := match args with | [] => some (.bool true) | _ => none
noncomputable def spec69 (args : List AV) : Option AV := match args with | [.int .i64 n] => bif inR64 n then some (.str (Lib.itoa n)) else none | _ => none
noncomputable def spec68 (args : List AV) : Option AV := match args with | [.str p] => bif Nat.ble (lenN p) 4000 then some (atoiR p) else none | _ => none
noncomputable def spec87 (args : List AV) : Option AV := match args with | [.str p, .fn (.func 67) [] [], .bool true] => some (.int .i64 (Lib.idxFunc ncNot true ⟨⟨p⟩⟩)) | _ => none
noncomputable def specG (f : Nat) (args : List AV) : Option AV := bif Nat.beq f 8 then spec8 args else bif Nat.beq f 69 then spec69 args else bif Nat.beq f 68 then spec68 args else bif Nat.beq f 87 then spec87 args else none
noncomputable def powV : List Value := [.int .u64 1, .int .u64 10, .int .u64 100, .int .u64 1000, .int .u64 10000, .int .u64 100000, .int .u64 1000000, .int .u64 10000000, .int .u64 100000000, .int .u64 1000000000, .int .u64 10000000000, .int .u64 100000000000, .int .u64 1000000000000, .int .u64 10000000000000, .int .u64 100000000000000, .int .u64 1000000000000000, .int .u64 10000000000000000, .int .u64 100000000000000000, .int .u64 1000000000000000000, .int .u64 10000000000000000000]
noncomputable def gobjG (g : Nat) : Option (List Value) := bif Nat.beq g 2 then some powV else none
/-- the interpreter for arguments of which not all is known: so many rounds at most; that the functions' example is right is known -/
noncomputable def Cg (K : Nat) : Cfg := { P := Tryz.prog, glob := globG, ext := extG, spec := specG, pure := pureG, own1 := own1G, loops := K, gobj := gobjG, nodef := fun f => memN [69, 68, 87] f }
noncomputable def bodyOf (fn : Func) : Code := match fn.body with | some c => c | none => .skip
end
end Go.Abs
namespace Go.Abs
noncomputable section
open Go Go.Proofs
/-! ## Values and events, as abstract ones -/
inductive Val where
  | mk (kind n e : Int) (s : List UInt8) (nn : Bool) (names : List (List UInt8)) (ni : Bool) (items : List Val)
def Val.kind : Val → Int | .mk k _ _ _ _ _ _ _ => k
def Val.n : Val → Int | .mk _ n _ _ _ _ _ _ => n
def Val.e : Val → Int | .mk _ _ e _ _ _ _ _ => e
def Val.s : Val → List UInt8 | .mk _ _ _ s _ _ _ _ => s
def Val.nn : Val → Bool | .mk _ _ _ _ b _ _ _ => b
def Val.names : Val → List (List UInt8) | .mk _ _ _ _ _ l _ _ => l
def Val.ni : Val → Bool | .mk _ _ _ _ _ _ b _ => b
def Val.items : Val → List Val | .mk _ _ _ _ _ _ _ l => l
instance : Inhabited Val := ⟨.mk 0 0 0 [] true [] true []⟩

/-- a slice that came in: nil, or so many elements in a read-only row -/
def sliceA (isNil : Bool) (cells : List AV) (n : Nat) : AV :=
  match n with
  | 0 => bif isNil then .nils else .slR cells 0 0 0 false
  | n + 1 => .slR cells 0 (n + 1) (n + 1) false

mutual
def Val.cells : Val → List AV
  | .mk k n e s nn names ni items => [.int .i64 k, .int .i64 n, .int .i64 e, .str s, sliceA nn (names.map .str) names.length, sliceA ni (cellsL items) items.length]
def cellsL : List Val → List AV
  | [] => []
  | v :: l => v.cells ++ cellsL l
end
def Val.namesA (v : Val) : AV := sliceA v.nn (v.names.map .str) v.names.length
def Val.itemsA (v : Val) : AV := sliceA v.ni (cellsL v.items) v.items.length
def Val.six (v : Val) : List AV := [.int .i64 v.kind, .int .i64 v.n, .int .i64 v.e, .str v.s, v.namesA, v.itemsA]
theorem cells_eq (v : Val) : v.cells = [.int .i64 v.kind, .int .i64 v.n, .int .i64 v.e, .str v.s, v.namesA, v.itemsA] := by
  cases v; rw [Val.cells]; rfl

structure Ev where
  comp : Int
  kind : Int
  text : List UInt8
  name : List UInt8
  val : Val
  other : Int
  deriving Inhabited
def Ev.cells (x : Ev) : List AV := [.int .i64 x.comp, .int .i64 x.kind, .str x.text, .str x.name] ++ x.val.cells ++ [.int .i64 x.other]
theorem ev_cells (x : Ev) : x.cells = [.int .i64 x.comp, .int .i64 x.kind, .str x.text, .str x.name, .int .i64 x.val.kind, .int .i64 x.val.n, .int .i64 x.val.e, .str x.val.s, x.val.namesA, x.val.itemsA, .int .i64 x.other] := by
  unfold Ev.cells; rw [cells_eq]; rfl
def Ev.elv (x : Ev) : List AV := [.int .i64 x.comp, .int .i64 x.kind, .str x.text, .str x.name, .int .i64 x.val.kind, .int .i64 x.val.n, .int .i64 x.val.e, .str x.val.s, x.val.namesA, x.val.itemsA, .int .i64 x.other]
def evsA (nn : Bool) (l : List Ev) : AV := sliceA nn (l.flatMap Ev.cells) l.length

theorem sliceA_own (m : Nat) (b : Bool) (cs : List AV) (n : Nat) : noOwn (m + 1) (sliceA b cs n) = true := by
  cases n with
  | zero => cases b <;> rfl
  | succ n => rfl
theorem names63 (v : Val) : noOwn 63 v.namesA = true := sliceA_own 62 _ _ _
theorem items63 (v : Val) : noOwn 63 v.itemsA = true := sliceA_own 62 _ _ _
theorem namesD (v : Val) : noOwn deep v.namesA = true := sliceA_own 63 _ _ _
theorem itemsD (v : Val) : noOwn deep v.itemsA = true := sliceA_own 63 _ _ _
theorem six63 (v : Val) : noOwnL (noOwn 63) v.six = true := by
  unfold Val.six
  simp only [noOwnL_cons, names63, items63, Bool.true_and]; rfl
theorem elv63 (x : Ev) : noOwnL (noOwn 63) x.elv = true := by
  unfold Ev.elv
  simp only [noOwnL_cons, names63, items63, Bool.true_and]; rfl
theorem evsD (b : Bool) (l : List Ev) : noOwn deep (evsA b l) = true := sliceA_own 63 _ _ _
theorem noL {f : AV → Bool} {c : AV} {l : List AV} (h : f c = true) (t : noOwnL f l = true) : noOwnL f (c :: l) = true := by rw [noOwnL_cons, h, t]; rfl
theorem aggSix (v : Val) : noOwn deep (.agg v.six) = true := six63 v
theorem aggElv (x : Ev) : noOwn deep (.agg x.elv) = true := elv63 x

/-! ### reading them -/
section
variable {C : Cfg} {h : Heap} {t e z : Nat} {nn : Bool} {cs : List AV} {n i : Nat}
theorem len_op (hu : C.P.underlying t = some (.slice e)) : builtinA C h .len #[t] [sliceA nn cs n] = some (.int .i64 ((n : Nat) : Int), h) := by
  have h1 : biLen C t (sliceA nn cs n) = some (.int .i64 ((n : Nat) : Int)) := by
    unfold biLen
    rw [hu]
    simp only
    cases n with
    | zero => cases nn <;> rfl
    | succ n => rfl
  show keep h (biLen C t (sliceA nn cs n)) = _
  rw [h1]; rfl

theorem index_op (hu : C.P.underlying t = some (.slice e)) (hk : knownT C e = true) (hz : sizeT C e = z) (hi : i < n) : keep h (opIndexAddr C t (sliceA nn cs n) (.int .i64 ((i : Nat) : Int))) = some (.ptrR cs (Nat.add 0 (Nat.mul i z)), h) := by
  obtain ⟨m, rfl⟩ : ∃ m, n = m + 1 := ⟨n - 1, by omega⟩
  have h1 : opIndexAddr C t (sliceA nn cs (m + 1)) (.int .i64 ((i : Nat) : Int)) = some (.ptrR cs (Nat.add 0 (Nat.mul i z))) := by
    unfold opIndexAddr
    have : natOf (.int .i64 ((i : Nat) : Int)) = some i := rfl
    rw [this, hu]
    simp only [sliceA]
    have hb : Nat.ble (Nat.succ i) (m + 1) = true := Nat.ble_eq_true_of_le hi
    rw [hb, hk, hz]; rfl
  rw [h1]; rfl

theorem load_agg {c : List AV} (hm : ∀ c, mkT C t c = some (.agg c)) (hz : sizeT C t = z) (hp : partN cs (Nat.add 0 (Nat.mul i z)) z = some c) : keep h (opLoad C h t (.ptrR cs (Nat.add 0 (Nat.mul i z)))) = some (.agg c, h) := by
  unfold opLoad readAt
  rw [hz]
  simp only [hp]
  rw [hm]; rfl
theorem load_str {q : List UInt8} (hu : C.P.underlying t = some .string) (hz : sizeT C t = 1) (hp : partN cs (Nat.add 0 (Nat.mul i 1)) 1 = some [.str q]) : keep h (opLoad C h t (.ptrR cs (Nat.add 0 (Nat.mul i 1)))) = some (.str q, h) := by
  unfold opLoad readAt
  rw [hz]
  simp only [hp]
  unfold mkT
  rw [hu]; rfl

theorem part_of {α : Type} {f : α → List AV} {z : Nat} (hf : ∀ x, (f x).length = z) : ∀ (l : List α) (i : Nat) (x : α), l[i]? = some x → partN (l.flatMap f) (Nat.add 0 (Nat.mul i z)) z = some (f x)
  | [], i, x, h => by simp at h
  | y :: l, i, x, h => by
    show partN _ (0 + i * z) z = _
    unfold partN
    simp only [lenN_eq, takeN_eq, dropN_eq]
    have hlen : ∀ l : List α, (l.flatMap f).length = l.length * z := by
      intro l
      induction l with
      | nil => simp
      | cons a l ih => simp [ih, hf, Nat.succ_mul]; omega
    have hi : i < (y :: l).length := (List.getElem?_eq_some_iff.1 h).1
    have hle : 0 + i * z + z ≤ ((y :: l).flatMap f).length := by
      rw [hlen]
      have : (i + 1) * z ≤ (y :: l).length * z := Nat.mul_le_mul_right z hi
      rw [Nat.succ_mul] at this; omega
    rw [show Nat.ble (Nat.add (0 + i * z) z) ((y :: l).flatMap f).length = true from Nat.ble_eq_true_of_le hle]
    simp only [cond_true, Option.some.injEq]
    have key : ∀ (l : List α) (i : Nat) (x : α), l[i]? = some x → ((l.flatMap f).drop (i * z)).take z = f x := by
      intro l
      induction l with
      | nil => intro i x h; simp at h
      | cons a l ih =>
        intro i x h
        cases i with
        | zero => simp at h; subst h; simp [List.flatMap_cons, hf]
        | succ i =>
          have h : l[i]? = some x := by simpa using h
          rw [List.flatMap_cons, Nat.succ_mul, Nat.add_comm, List.drop_append, List.drop_of_length_le (by rw [hf]; omega), hf]
          simp only [List.nil_append]
          rw [show z + i * z - z = i * z by omega]
          exact ih i x h
    rw [Nat.zero_add]
    exact key _ i x h
end
theorem cells_len (v : Val) : v.cells.length = 6 := by rw [cells_eq]; rfl
theorem ev_len (x : Ev) : x.cells.length = 11 := by rw [ev_cells]; rfl
theorem cellsL_eq : ∀ l : List Val, cellsL l = l.flatMap Val.cells
  | [] => by rw [cellsL]; rfl
  | v :: l => by rw [cellsL, cellsL_eq l]; simp

section
variable {K : Nat} {h : Heap} {v : Val} {i : Nat}
theorem u29 : (Cg K).P.underlying 29 = some (.slice 9) := by kernel_rfl
theorem u33 : (Cg K).P.underlying 33 = some (.slice 35) := by kernel_rfl
theorem u22 : (Cg K).P.underlying 22 = some (.slice 37) := by kernel_rfl
theorem u9 : (Cg K).P.underlying 9 = some .string := by kernel_rfl
theorem z9 : sizeT (Cg K) 9 = 1 := by kernel_rfl
theorem z35 : sizeT (Cg K) 35 = 6 := by kernel_rfl
theorem z37 : sizeT (Cg K) 37 = 11 := by kernel_rfl
theorem k9 : knownT (Cg K) 9 = true := by kernel_rfl
theorem k35 : knownT (Cg K) 35 = true := by kernel_rfl
theorem k37 : knownT (Cg K) 37 = true := by kernel_rfl
theorem m35 (c : List AV) : mkT (Cg K) 35 c = some (.agg c) := by kernel_rfl
theorem m37 (c : List AV) : mkT (Cg K) 37 c = some (.agg c) := by kernel_rfl

/-! the slices of a value -/
theorem names_len : builtinA (Cg K) h .len #[29] [v.namesA] = some (.int .i64 ((v.names.length : Nat) : Int), h) := len_op u29
theorem items_len : builtinA (Cg K) h .len #[33] [v.itemsA] = some (.int .i64 ((v.items.length : Nat) : Int), h) := len_op u33
theorem names_at (hi : i < v.names.length) : keep h (opIndexAddr (Cg K) 29 v.namesA (.int .i64 ((i : Nat) : Int))) = some (.ptrR (v.names.map .str) (Nat.add 0 (Nat.mul i 1)), h) := index_op u29 k9 z9 hi
theorem items_at (hi : i < v.items.length) : keep h (opIndexAddr (Cg K) 33 v.itemsA (.int .i64 ((i : Nat) : Int))) = some (.ptrR (cellsL v.items) (Nat.add 0 (Nat.mul i 6)), h) := index_op u33 k35 z35 hi
theorem name_get (hi : i < v.names.length) : keep h (opLoad (Cg K) h 9 (.ptrR (v.names.map .str) (Nat.add 0 (Nat.mul i 1)))) = some (.str (v.names.getD i []), h) := by
  refine load_str u9 z9 ?_
  have h1 : v.names.map AV.str = v.names.flatMap fun s => [.str s] := by
    generalize v.names = l
    induction l with
    | nil => rfl
    | cons a l ih => simp [ih]
  rw [h1]
  refine part_of (f := fun s => [AV.str s]) (fun _ => rfl) _ _ _ ?_
  rw [List.getD_eq_getElem?_getD, List.getElem?_eq_getElem hi]; rfl
theorem item_get (hi : i < v.items.length) : keep h (opLoad (Cg K) h 35 (.ptrR (cellsL v.items) (Nat.add 0 (Nat.mul i 6)))) = some (.agg [.int .i64 (v.items.getD i default).kind, .int .i64 (v.items.getD i default).n, .int .i64 (v.items.getD i default).e, .str (v.items.getD i default).s, (v.items.getD i default).namesA, (v.items.getD i default).itemsA], h) := by
  rw [← cells_eq]
  refine load_agg m35 z35 ?_
  rw [cellsL_eq]
  refine part_of cells_len _ _ _ ?_
  rw [List.getD_eq_getElem?_getD, List.getElem?_eq_getElem hi]; rfl
theorem evs_len {b : Bool} {l : List Ev} : builtinA (Cg K) h .len #[22] [evsA b l] = some (.int .i64 ((l.length : Nat) : Int), h) := len_op u22
theorem evs_at {b : Bool} {l : List Ev} (hi : i < l.length) : keep h (opIndexAddr (Cg K) 22 (evsA b l) (.int .i64 ((i : Nat) : Int))) = some (.ptrR (l.flatMap Ev.cells) (Nat.add 0 (Nat.mul i 11)), h) := index_op u22 k37 z37 hi
theorem ev_get {l : List Ev} (hi : i < l.length) : keep h (opLoad (Cg K) h 37 (.ptrR (l.flatMap Ev.cells) (Nat.add 0 (Nat.mul i 11)))) = some (.agg (l.getD i default).cells, h) := by
  refine load_agg m37 z37 ?_
  refine part_of ev_len _ _ _ ?_
  rw [List.getD_eq_getElem?_getD, List.getElem?_eq_getElem hi]; rfl
theorem ev_get11 {l : List Ev} (hi : i < l.length) : keep h (opLoad (Cg K) h 37 (.ptrR (l.flatMap Ev.cells) (Nat.add 0 (Nat.mul i 11)))) = some (.agg [.int .i64 (l.getD i default).comp, .int .i64 (l.getD i default).kind, .str (l.getD i default).text, .str (l.getD i default).name, .int .i64 (l.getD i default).val.kind, .int .i64 (l.getD i default).val.n, .int .i64 (l.getD i default).val.e, .str (l.getD i default).val.s, (l.getD i default).val.namesA, (l.getD i default).val.itemsA, .int .i64 (l.getD i default).other], h) := by
  rw [← ev_cells]; exact ev_get hi
theorem item_six (hi : i < v.items.length) : keep h (opLoad (Cg K) h 35 (.ptrR (cellsL v.items) (Nat.add 0 (Nat.mul i 6)))) = some (.agg (v.items.getD i default).six, h) := item_get hi
theorem ev_elv {l : List Ev} (hi : i < l.length) : keep h (opLoad (Cg K) h 37 (.ptrR (l.flatMap Ev.cells) (Nat.add 0 (Nat.mul i 11)))) = some (.agg (l.getD i default).elv, h) := ev_get11 hi
theorem loops_eq : (Cg K).loops = K := rfl
theorem lt_of_dec {a b : Nat} (h : decide (((a : Nat) : Int) < ((b : Nat) : Int)) = true) : a < b := by
  have := of_decide_eq_true h; omega
theorem end_eq {i n : Nat} (hi : i ≤ n) (h : decide (((i : Nat) : Int) < ((n : Nat) : Int)) = false) : i = n := by
  have := of_decide_eq_false h; omega
theorem wrap_succ {i n : Nat} (h : i < n) (hn : n ≤ 9223372036854775807) : wrapF .i64 (((i : Nat) : Int) + 1) = ((i + 1 : Nat) : Int) := by
  unfold wrapF
  have : inR64 (((i : Nat) : Int) + 1) = true := by
    show inR64 (((i + 1 : Nat)) : Int) = true
    exact Nat.ble_eq_true_of_le (by omega)
  simp only [this, cond_true]
  rfl
theorem wrapA {i n : Nat} (h : i < n) (hn : n ≤ 9223372036854775807) : AV.int .i64 (wrapF .i64 (((i : Nat) : Int) + 1)) = .int .i64 ((i + 1 : Nat) : Int) := by rw [wrap_succ h hn]
end
end
end Go.Abs
namespace Go.Abs
noncomputable section
open Go Go.Proofs
variable {K : Nat}
def withinB (a b c : Int) : Bool := decide (b ≤ a) && decide (a ≤ c)
def isNum (a : Int) : Bool := withinB a (-1152921504606846976) 1152921504606846976
set_option maxRecDepth 20000 in
theorem within_c {n : Nat}  (hn : 1 ≤ n) (a b c : Int)  (h : Heap) : (fns (Cg K) n).call 17 [.int .i64 a, .int .i64 b, .int .i64 c] h none = some (.val (.bool (withinB a b c)) h none) := by
  obtain ⟨m, rfl⟩ : ∃ m, n = m + 1 := ⟨n - 1, by omega⟩
  refine pureq (C := Cg K) (F := fns (Cg K) m) (fn := Tryz.f17) (c := bodyOf Tryz.f17) (by kernel_rfl) (by kernel_rfl) (by kernel_rfl) (by kernel_rfl) (by kernel_rfl) (by kernel_rfl) (by kernel_rfl) ?_ h
  refine W.seq ?_
  refine W.region ?_
  refine WO.fin (by kernel_rfl) ?_
  refine W.seq ?_
  refine W.region ?_
  refine WO.adv 4 (by kernel_rfl) ?_
  refine splitB (decide (b ≤ a)) (fun hb1 => ?_) (fun hb1 => ?_)
  · refine WO.sub 9 hb1 (by kernel_rfl) ?_
    refine WO.sub 10 hb1 (by kernel_rfl) ?_
    refine WO.fin (by kernel_rfl) ?_
    refine W.ret ?_
    exact RetQ.k (v' := .bool (decide (a ≤ c))) (by simp [withinB, *]) (by kernel_rfl) (by kernel_rfl)
  · refine WO.sub 9 hb1 (by kernel_rfl) ?_
    refine WO.sub 10 hb1 (by kernel_rfl) ?_
    refine WO.fin (by kernel_rfl) ?_
    refine W.ret ?_
    exact RetQ.k (v' := .bool false) (by simp [withinB, *]) (by kernel_rfl) (by kernel_rfl)

set_option maxRecDepth 20000 in
theorem isNumber_c {n : Nat}  (hn : 2 ≤ n) (a : Int)  (h : Heap) : (fns (Cg K) n).call 39 [.int .i64 a] h none = some (.val (.bool (isNum a)) h none) := by
  obtain ⟨m, rfl⟩ : ∃ m, n = m + 1 := ⟨n - 1, by omega⟩
  refine pureq (C := Cg K) (F := fns (Cg K) m) (fn := Tryz.f39) (c := bodyOf Tryz.f39) (by kernel_rfl) (by kernel_rfl) (by kernel_rfl) (by kernel_rfl) (by kernel_rfl) (by kernel_rfl) (by kernel_rfl) ?_ h
  refine W.seq ?_
  refine W.region ?_
  refine WO.fin (by kernel_rfl) ?_
  refine W.seq ?_
  refine W.region ?_
  refine WO.adv 1 (by kernel_rfl) ?_
  refine WO.callp (by kernel_rfl) (within_c (n := m) (by omega) a (-1152921504606846976) 1152921504606846976 _) ?_
  refine WO.fin (by kernel_rfl) ?_
  refine W.ret ?_
  exact RetQ.k (v' := .bool (withinB a (-1152921504606846976) 1152921504606846976)) (by rfl) (by kernel_rfl) (by kernel_rfl)

set_option maxRecDepth 20000 in
theorem fits_c {n : Nat}  (hn : 1 ≤ n) (a : Int)  (h : Heap) : (fns (Cg K) n).call 58 [.int .i64 a] h none = some (.val (.bool (isNum a)) h none) := by
  obtain ⟨m, rfl⟩ : ∃ m, n = m + 1 := ⟨n - 1, by omega⟩
  refine pureq (C := Cg K) (F := fns (Cg K) m) (fn := Tryz.f58) (c := bodyOf Tryz.f58) (by kernel_rfl) (by kernel_rfl) (by kernel_rfl) (by kernel_rfl) (by kernel_rfl) (by kernel_rfl) (by kernel_rfl) ?_ h
  refine W.seq ?_
  refine W.region ?_
  refine WO.fin (by kernel_rfl) ?_
  refine W.seq ?_
  refine W.region ?_
  refine WO.adv 3 (by kernel_rfl) ?_
  refine splitB (decide ((-1152921504606846976) ≤ a)) (fun hb1 => ?_) (fun hb1 => ?_)
  · refine WO.sub 4 hb1 (by kernel_rfl) ?_
    refine WO.sub 5 hb1 (by kernel_rfl) ?_
    refine WO.fin (by kernel_rfl) ?_
    refine W.ret ?_
    exact RetQ.k (v' := .bool (decide (a ≤ 1152921504606846976))) (by simp [isNum, withinB, *]) (by kernel_rfl) (by kernel_rfl)
  · refine WO.sub 4 hb1 (by kernel_rfl) ?_
    refine WO.sub 5 hb1 (by kernel_rfl) ?_
    refine WO.fin (by kernel_rfl) ?_
    refine W.ret ?_
    exact RetQ.k (v' := .bool false) (by simp [isNum, withinB, *]) (by kernel_rfl) (by kernel_rfl)

set_option maxRecDepth 20000 in
theorem unless_c {n : Nat}  (hn : 1 ≤ n) (b : Bool) (c : Int)  (h : Heap) : (fns (Cg K) n).call 38 [.bool b, .int .i64 c] h none = some (.val (.int .i64 (bif b then 0 else c)) h none) := by
  obtain ⟨m, rfl⟩ : ∃ m, n = m + 1 := ⟨n - 1, by omega⟩
  refine pureq (C := Cg K) (F := fns (Cg K) m) (fn := Tryz.f38) (c := bodyOf Tryz.f38) (by kernel_rfl) (by kernel_rfl) (by kernel_rfl) (by kernel_rfl) (by kernel_rfl) (by kernel_rfl) (by kernel_rfl) ?_ h
  refine W.seq ?_
  refine W.region ?_
  refine WO.fin (by kernel_rfl) ?_
  refine W.seq ?_
  refine W.seq ?_
  refine W.region ?_
  refine WO.fin (by kernel_rfl) ?_
  refine W.cond b (by kernel_rfl) (fun hb1 => ?_) (fun hb1 => ?_)
  · refine W.sub 0 hb1 (by kernel_rfl) ?_
    refine W.sub 5 hb1 (by kernel_rfl) ?_
    refine W.seq ?_
    refine W.region ?_
    refine WO.fin (by kernel_rfl) ?_
    refine W.ret ?_
    exact RetQ.k (v' := .int .i64 0) (by simp [*]) (by kernel_rfl) (by kernel_rfl)
  · refine W.sub 0 hb1 (by kernel_rfl) ?_
    refine W.sub 5 hb1 (by kernel_rfl) ?_
    refine W.skip ?_
    refine W.seq ?_
    refine W.region ?_
    refine WO.fin (by kernel_rfl) ?_
    refine W.ret ?_
    exact RetQ.k (v' := .int .i64 c) (by simp [*]) (by kernel_rfl) (by kernel_rfl)

set_option maxRecDepth 20000 in
theorem long_c {n : Nat}  (hn : 1 ≤ n) (s : List UInt8)  (h : Heap) : (fns (Cg K) n).call 83 [.str s] h none = some (.val (.bool (decide (((lenN s : Nat) : Int) > 200))) h none) := by
  obtain ⟨m, rfl⟩ : ∃ m, n = m + 1 := ⟨n - 1, by omega⟩
  refine pureq (C := Cg K) (F := fns (Cg K) m) (fn := Tryz.f83) (c := bodyOf Tryz.f83) (by kernel_rfl) (by kernel_rfl) (by kernel_rfl) (by kernel_rfl) (by kernel_rfl) (by kernel_rfl) (by kernel_rfl) ?_ h
  refine W.seq ?_
  refine W.region ?_
  refine WO.fin (by kernel_rfl) ?_
  refine W.seq ?_
  refine W.region ?_
  refine WO.fin (by kernel_rfl) ?_
  refine W.ret ?_
  exact RetQ.k (v' := .bool (decide (((lenN s : Nat) : Int) > 200))) (by rfl) (by kernel_rfl) (by kernel_rfl)

end
end Go.Abs
namespace Go.Abs
noncomputable section
open Go Go.Proofs
variable {K : Nat}
mutual
def inRangeB : Val → Bool
  | .mk k n e _ _ _ _ items => isNum k && (isNum n && (isNum e && inRangeL items))
def inRangeL : List Val → Bool
  | [] => true
  | v :: l => inRangeB v && inRangeL l
end
mutual
def Val.dep : Val → Nat
  | .mk _ _ _ _ _ _ _ items => 1 + depL items
def depL : List Val → Nat
  | [] => 0
  | v :: l => max v.dep (depL l)
end
theorem dep_item (v : Val) {i : Nat} (hi : i < v.items.length) : (v.items.getD i default).dep < v.dep := by
  cases v with
  | mk k n e s nn names ni items =>
    rw [Val.dep]
    show ((items.getD i default).dep) < 1 + depL items
    have hi : i < items.length := hi
    have key : ∀ (l : List Val) (i : Nat), i < l.length → (l.getD i default).dep ≤ depL l := by
      intro l
      induction l with
      | nil => intro i hi; cases hi
      | cons a l ih =>
        intro i hi
        rw [depL]
        cases i with
        | zero => exact Nat.le_max_left _ _
        | succ i => exact Nat.le_trans (ih i (by simpa using hi)) (Nat.le_max_right _ _)
    have := key items i hi
    omega
/-- all lists are as long as memory can hold -/
def big : Nat := 9223372036854775808
mutual
def Val.ok : Val → Prop
  | .mk _ _ _ s _ names _ items => names.length < big ∧ items.length < big ∧ okL items
def okL : List Val → Prop
  | [] => True
  | v :: l => v.ok ∧ okL l
end
theorem ok_items {v : Val} (h : v.ok) : v.items.length < big := by cases v; rw [Val.ok] at h; exact h.2.1
theorem ok_names {v : Val} (h : v.ok) : v.names.length < big := by cases v; rw [Val.ok] at h; exact h.1
theorem ok_item {v : Val} (h : v.ok) {i : Nat} (hi : i < v.items.length) : (v.items.getD i default).ok := by
  cases v with
  | mk k n e s nn names ni items =>
    rw [Val.ok] at h
    have hi : i < items.length := hi
    show (items.getD i default).ok
    have key : ∀ (l : List Val) (i : Nat), okL l → i < l.length → (l.getD i default).ok := by
      intro l
      induction l with
      | nil => intro i _ hi; cases hi
      | cons a l ih =>
        intro i h hi
        rw [okL] at h
        cases i with
        | zero => exact h.1
        | succ i => exact ih i h.2 (by simpa using hi)
    exact key items i h.2.2 hi
theorem inRangeB_eq (v : Val) : inRangeB v = (isNum v.kind && (isNum v.n && (isNum v.e && inRangeL v.items))) := by cases v; rw [inRangeB]; rfl
theorem inRangeL_iff : ∀ l : List Val, inRangeL l = true ↔ ∀ j, j < l.length → inRangeB (l.getD j default) = true
  | [] => by rw [inRangeL]; simp
  | a :: l => by
    rw [inRangeL, Bool.and_eq_true, inRangeL_iff l]
    constructor
    · rintro ⟨h1, h2⟩ j hj
      cases j with
      | zero => exact h1
      | succ j => exact h2 j (by simpa using hj)
    · intro h
      exact ⟨h 0 (by simp), fun j hj => h (j + 1) (by simpa using hj)⟩
theorem inRange_no (v : Val) (i : Nat) (hi : i < v.items.length) (h : inRangeB (v.items.getD i default) = false) : inRangeB v = false := by
  cases hv : inRangeB v with
  | false => rfl
  | true =>
    rw [inRangeB_eq] at hv
    simp only [Bool.and_eq_true] at hv
    rw [(inRangeL_iff v.items).1 hv.2.2.2 i hi] at h; cases h
theorem inRange_yes (v : Val) (h1 : isNum v.kind = true) (h2 : isNum v.n = true) (h3 : isNum v.e = true) (h : ∀ j, j < v.items.length → inRangeB (v.items.getD j default) = true) : inRangeB v = true := by
  rw [inRangeB_eq, h1, h2, h3, (inRangeL_iff v.items).2 h]; rfl
set_option maxRecDepth 20000 in
theorem inRange_c1 {n : Nat}  (hn : 3 ≤ n) (v : Val) (hv : v.ok) (hK : big ≤ K) (hrec0 : ∀ m, m + 1 = n → ∀ i, i < v.items.length → ∀ h, (fns (Cg K) m).call 42 [.agg (v.items.getD i default).six] h none = some (.val (.bool (inRangeB (v.items.getD i default))) h none)) (h : Heap) : (fns (Cg K) n).call 42 [.agg v.six] h none = some (.val (.bool (inRangeB v)) h none) := by
  obtain ⟨m, rfl⟩ : ∃ m, n = m + 1 := ⟨n - 1, by omega⟩
  have hlt := ok_items hv
  have hlen : v.items.length ≤ 9223372036854775807 := by unfold big at hlt; omega
  have hlK : v.items.length < (Cg K).loops := by rw [loops_eq]; omega
  have hrec := hrec0 m rfl
  clear hrec0
  refine pureq (C := Cg K) (F := fns (Cg K) m) (fn := Tryz.f42) (c := bodyOf Tryz.f42) (by kernel_rfl) (by kernel_rfl) (by kernel_rfl) (noL (aggSix _) rfl) (by kernel_rfl) (by kernel_rfl) (by kernel_rfl) ?_ h
  refine W.seq ?_
  refine W.region ?_
  refine WO.fin (by kernel_rfl) ?_
  refine W.seq ?_
  refine W.seq ?_
  refine W.region ?_
  refine WO.adv 2 (by kernel_rfl) ?_
  refine WO.callp (by kernel_rfl) (isNumber_c (n := m) (by omega) v.kind _) ?_
  refine WO.adv 2 (by kernel_rfl) ?_
  refine splitB (!(isNum v.kind)) (fun hb1 => ?_) (fun hb1 => ?_)
  · refine WO.sub 7 hb1 (by kernel_rfl) ?_
    refine WO.sub 8 hb1 (by kernel_rfl) ?_
    refine WO.fin (by kernel_rfl) ?_
    refine W.cond true (by kernel_rfl) (fun _ => ?_) (fun h => by cases h)
    refine W.seq ?_
    refine W.region ?_
    refine WO.fin (by kernel_rfl) ?_
    refine W.ret ?_
    exact RetQ.k (v' := .bool false) (by rw [inRangeB_eq]; simp only [Bool.not_eq_true', Bool.not_eq_false'] at hb1; simp [hb1]) (by kernel_rfl) (by kernel_rfl)
  · refine WO.sub 7 hb1 (by kernel_rfl) ?_
    refine WO.sub 8 hb1 (by kernel_rfl) ?_
    refine WO.adv 2 (by kernel_rfl) ?_
    refine WO.callp (by kernel_rfl) (isNumber_c (n := m) (by omega) v.n _) ?_
    refine WO.adv 3 (by kernel_rfl) ?_
    refine splitB (!(isNum v.n)) (fun hb2 => ?_) (fun hb2 => ?_)
    · refine WO.sub 12 hb2 (by kernel_rfl) ?_
      refine WO.sub 13 hb2 (by kernel_rfl) ?_
      refine WO.sub 14 hb2 (by kernel_rfl) ?_
      refine WO.fin (by kernel_rfl) ?_
      refine W.cond true (by kernel_rfl) (fun _ => ?_) (fun h => by cases h)
      refine W.seq ?_
      refine W.region ?_
      refine WO.fin (by kernel_rfl) ?_
      refine W.ret ?_
      exact RetQ.k (v' := .bool false) (by rw [inRangeB_eq]; simp only [Bool.not_eq_true', Bool.not_eq_false'] at hb1 hb2; simp [hb1, hb2]) (by kernel_rfl) (by kernel_rfl)
    · refine WO.sub 12 hb2 (by kernel_rfl) ?_
      refine WO.sub 13 hb2 (by kernel_rfl) ?_
      refine WO.sub 14 hb2 (by kernel_rfl) ?_
      refine WO.adv 2 (by kernel_rfl) ?_
      refine WO.callp (by kernel_rfl) (isNumber_c (n := m) (by omega) v.e _) ?_
      refine WO.fin (by kernel_rfl) ?_
      refine W.cond (!(isNum v.e)) (by kernel_rfl) (fun hb3 => ?_) (fun hb3 => ?_)
      · refine W.sub 18 hb3 (by kernel_rfl) ?_
        refine W.sub 19 hb3 (by kernel_rfl) ?_
        refine W.seq ?_
        refine W.region ?_
        refine WO.fin (by kernel_rfl) ?_
        refine W.ret ?_
        exact RetQ.k (v' := .bool false) (by rw [inRangeB_eq]; simp only [Bool.not_eq_true', Bool.not_eq_false'] at hb1 hb2 hb3; simp [hb1, hb2, hb3]) (by kernel_rfl) (by kernel_rfl)
      · refine W.sub 18 hb3 (by kernel_rfl) ?_
        refine W.sub 19 hb3 (by kernel_rfl) ?_
        refine W.skip ?_
        refine W.seq ?_
        refine W.seq ?_
        refine W.region ?_
        refine WO.fin (by kernel_rfl) ?_
        refine W.block ?_
        refine W.loopc (len := v.items.length) (fun i t => (S 34 [some (.agg v.six), some (.ptrO 0 0), (t.g 2), some (.int .i64 ((i : Nat) : Int)), some (.ptrO 0 0), some (.int .i64 v.kind), some (.bool (isNum v.kind)), some (.bool false), some (.bool false), some (.ptrO 0 1), some (.int .i64 v.n), some (.bool (isNum v.n)), some (.bool false), some (.bool false), some (.bool false), some (.ptrO 0 2), some (.int .i64 v.e), some (.bool (isNum v.e)), some (.bool false), some (.bool false), (t.g 20), (t.g 21), (t.g 22), (t.g 23), (t.g 24), (t.g 25), (t.g 26), (t.g 27), (t.g 28), (t.g 29), (t.g 30), (t.g 31), (t.g 32), (t.g 33)] (hpL [bk 0 35 true 0 v.six]))) (fun i t => (∀ j, j < i → inRangeB (v.items.getD j default) = true)) hlK ?_ ?_ ?_
        · exact Told.k (by kernel_rfl)
        · intro j hj; omega
        · intro i4 t4 hi4 hI4
          refine W.seq ?_
          refine W.seq ?_
          refine W.region ?_
          refine WO.adv 3 (by kernel_rfl) ?_
          refine WO.opc (fun h => items_len (K := K) (h := h) (v := v)) (by kernel_rfl) ?_
          refine WO.fin (by kernel_rfl) ?_
          refine W.cond (decide (((i4 : Nat) : Int) < ((v.items.length : Nat) : Int))) (by kernel_rfl) (fun hb5 => ?_) (fun hb5 => ?_)
          · refine W.sub 24 hb5 (by kernel_rfl) ?_
            refine W.skip ?_
            refine W.seq ?_
            refine W.block ?_
            refine W.seq ?_
            refine W.region ?_
            refine WO.adv 3 (by kernel_rfl) ?_
            refine WO.opc (fun h => items_at (K := K) (h := h) (v := v) (lt_of_dec hb5)) (by kernel_rfl) ?_
            refine WO.opc (fun h => item_six (K := K) (h := h) (v := v) (lt_of_dec hb5)) (by kernel_rfl) ?_
            refine WO.callp (by kernel_rfl) (hrec i4 (lt_of_dec hb5) _) ?_
            refine WO.fin (by kernel_rfl) ?_
            refine W.cond (!(inRangeB (v.items.getD i4 default))) (by kernel_rfl) (fun hb6 => ?_) (fun hb6 => ?_)
            · refine W.sub 33 hb6 (by kernel_rfl) ?_
              refine W.seq ?_
              refine W.region ?_
              refine WO.fin (by kernel_rfl) ?_
              refine W.ret ?_
              exact RetQ.k (v' := .bool false) (by exact congrArg _ (inRange_no v i4 (lt_of_dec hb5) (by simpa using hb6))) (by kernel_rfl) (by kernel_rfl)
            · refine W.sub 33 hb6 (by kernel_rfl) ?_
              refine W.skip ?_
              refine W.region ?_
              refine WO.fin (by kernel_rfl) ?_
              have hlt : i4 < v.items.length := ((lt_of_dec hb5))
              refine ⟨hlt, ?_, ?_⟩
              · intro j hj; rcases Nat.lt_succ_iff_lt_or_eq.1 hj with h | rfl <;> first | exact hI4 j h | exact hb6 | simpa using hb6
              · refine Told.put 3 (wrapA hlt hlen) (by kernel_rfl) ?_
                exact Told.k (by kernel_rfl)
          · refine W.sub 24 hb5 (by kernel_rfl) ?_
            refine W.exit ?_
            refine blockQ ?_
            refine W.seq ?_
            refine W.region ?_
            refine WO.fin (by kernel_rfl) ?_
            refine W.ret ?_
            exact RetQ.k (v' := .bool true) (by exact congrArg _ (inRange_yes v (by simpa using hb1) (by simpa using hb2) (by simpa using hb3) (fun j hj => hI4 j (by have := end_eq hi4 hb5; omega)))) (by kernel_rfl) (by kernel_rfl)

theorem inRange_c (hK : big ≤ K) : ∀ (d : Nat) (v : Val), v.dep ≤ d → v.ok → ∀ n, d + 3 ≤ n → ∀ h, (fns (Cg K) n).call 42 [.agg v.six] h none = some (.val (.bool (inRangeB v)) h none) := by
  intro d
  induction d with
  | zero => intro v hd; cases v; rw [Val.dep] at hd; omega
  | succ d ih =>
    intro v hd hv n hn h
    refine inRange_c1 (by omega) v hv hK (fun m hm i hi h => ?_) h
    exact ih _ (by have := dep_item v hi; omega) (ok_item hv hi) m (by omega) h
end
end Go.Abs
namespace Go.Abs
noncomputable section
open Go Go.Proofs
variable {K : Nat}
mutual
def valueErrI : Val → Int
  | .mk _ _ _ s _ names _ items => bif decide (((s.length : Nat) : Int) > 200) || decide (((names.length : Nat) : Int) > 40) then 2 else bif names.any (fun x => decide (((x.length : Nat) : Int) > 200)) then 2 else valueErrL items
def valueErrL : List Val → Int
  | [] => 0
  | v :: l => bif valueErrI v != 0 then valueErrI v else valueErrL l
end
theorem valueErrI_eq (v : Val) : valueErrI v = (bif decide (((v.s.length : Nat) : Int) > 200) || decide (((v.names.length : Nat) : Int) > 40) then 2 else bif v.names.any (fun x => decide (((x.length : Nat) : Int) > 200)) then 2 else valueErrL v.items) := by cases v; rw [valueErrI]; rfl
theorem valueErrL_at : ∀ (l : List Val) (i : Nat), i < l.length → (∀ j, j < i → valueErrI (l.getD j default) = 0) → valueErrI (l.getD i default) ≠ 0 → valueErrL l = valueErrI (l.getD i default)
  | [], i, hi, _, _ => by cases hi
  | a :: l, 0, _, _, h => by
    rw [valueErrL]
    have h : valueErrI a ≠ 0 := h
    have : (valueErrI a != 0) = true := by simpa using h
    rw [this]; rfl
  | a :: l, i + 1, hi, h0, h => by
    rw [valueErrL]
    have h1 : valueErrI a = 0 := h0 0 (by omega)
    have : (valueErrI a != 0) = false := by rw [h1]; rfl
    rw [this]
    exact valueErrL_at l i (by simpa using hi) (fun j hj => h0 (j + 1) (by omega)) h
theorem valueErrL_zero : ∀ (l : List Val), (∀ j, j < l.length → valueErrI (l.getD j default) = 0) → valueErrL l = 0
  | [], _ => by rw [valueErrL]
  | a :: l, h => by
    rw [valueErrL]
    have h1 : valueErrI a = 0 := h 0 (by simp)
    have : (valueErrI a != 0) = false := by rw [h1]; rfl
    rw [this]
    exact valueErrL_zero l fun j hj => h (j + 1) (by simpa using hj)
theorem any_at {p : List UInt8 → Bool} : ∀ (l : List (List UInt8)) (i : Nat), i < l.length → p (l.getD i []) = true → l.any p = true
  | [], i, hi, _ => by cases hi
  | a :: l, 0, _, h => by
    have h : p a = true := h
    simp [h]
  | a :: l, i + 1, hi, h => by rw [List.any_cons, any_at l i (by simpa using hi) h]; simp
theorem any_no {p : List UInt8 → Bool} : ∀ (l : List (List UInt8)), (∀ j, j < l.length → p (l.getD j []) = false) → l.any p = false
  | [], _ => rfl
  | a :: l, h => by
    have h1 : p a = false := h 0 (by simp)
    rw [List.any_cons, h1, any_no l fun j hj => h (j + 1) (by simpa using hj)]; rfl
set_option maxRecDepth 20000 in
theorem valueErr_c1 {n : Nat}  (hn : 1 ≤ n) (v : Val) (hv : v.ok) (hK : big ≤ K) (hrec0 : ∀ m, m + 1 = n → ∀ i, i < v.items.length → ∀ h, (fns (Cg K) m).call 41 [.agg (v.items.getD i default).six] h none = some (.val (.int .i64 (valueErrI (v.items.getD i default))) h none)) (h : Heap) : (fns (Cg K) n).call 41 [.agg v.six] h none = some (.val (.int .i64 (valueErrI v)) h none) := by
  obtain ⟨m, rfl⟩ : ∃ m, n = m + 1 := ⟨n - 1, by omega⟩
  have hlt := ok_items hv
  have hlen : v.items.length ≤ 9223372036854775807 := by unfold big at hlt; omega
  have hlK : v.items.length < (Cg K).loops := by rw [loops_eq]; omega
  have hlt1 := ok_names hv
  have hlen1 : v.names.length ≤ 9223372036854775807 := by unfold big at hlt1; omega
  have hlK1 : v.names.length < (Cg K).loops := by rw [loops_eq]; omega
  have hrec := hrec0 m rfl
  clear hrec0
  refine pureq (C := Cg K) (F := fns (Cg K) m) (fn := Tryz.f41) (c := bodyOf Tryz.f41) (by kernel_rfl) (by kernel_rfl) (by kernel_rfl) (noL (aggSix _) rfl) (by kernel_rfl) (by kernel_rfl) (by kernel_rfl) ?_ h
  refine W.seq ?_
  refine W.region ?_
  refine WO.fin (by kernel_rfl) ?_
  refine W.seq ?_
  refine W.seq ?_
  refine W.region ?_
  refine WO.adv 5 (by kernel_rfl) ?_
  refine splitB (decide (((lenN v.s : Nat) : Int) > 200)) (fun hb1 => ?_) (fun hb1 => ?_)
  · refine WO.sub 9 hb1 (by kernel_rfl) ?_
    refine WO.sub 10 hb1 (by kernel_rfl) ?_
    refine WO.fin (by kernel_rfl) ?_
    refine W.cond true (by kernel_rfl) (fun _ => ?_) (fun h => by cases h)
    refine W.seq ?_
    refine W.region ?_
    refine WO.fin (by kernel_rfl) ?_
    refine W.ret ?_
    exact RetQ.k (v' := .int .i64 2) (by rw [valueErrI_eq]; rw [lenN_eq] at hb1; simp [hb1]) (by kernel_rfl) (by kernel_rfl)
  · refine WO.sub 9 hb1 (by kernel_rfl) ?_
    refine WO.sub 10 hb1 (by kernel_rfl) ?_
    refine WO.adv 2 (by kernel_rfl) ?_
    refine WO.opc (fun h => names_len (K := K) (h := h) (v := v)) (by kernel_rfl) ?_
    refine WO.fin (by kernel_rfl) ?_
    refine W.cond (decide (((v.names.length : Nat) : Int) > 40)) (by kernel_rfl) (fun hb2 => ?_) (fun hb2 => ?_)
    · refine W.sub 14 hb2 (by kernel_rfl) ?_
      refine W.sub 15 hb2 (by kernel_rfl) ?_
      refine W.seq ?_
      refine W.region ?_
      refine WO.fin (by kernel_rfl) ?_
      refine W.ret ?_
      exact RetQ.k (v' := .int .i64 2) (by rw [valueErrI_eq]; rw [lenN_eq] at hb1; simp [hb1, hb2]) (by kernel_rfl) (by kernel_rfl)
    · refine W.sub 14 hb2 (by kernel_rfl) ?_
      refine W.sub 15 hb2 (by kernel_rfl) ?_
      refine W.skip ?_
      refine W.seq ?_
      refine W.seq ?_
      refine W.region ?_
      refine WO.fin (by kernel_rfl) ?_
      refine W.block ?_
      refine W.loopc (len := v.names.length) (fun i t => (S 46 [some (.agg v.six), some (.ptrO 0 0), (t.g 2), some (.int .i64 ((i : Nat) : Int)), none, none, some (.ptrO 0 3), some (.str v.s), some (.int .i64 ((lenN v.s : Nat) : Int)), some (.bool false), some (.bool false), some (.ptrO 0 4), some (v.namesA), some (.int .i64 ((v.names.length : Nat) : Int)), some (.bool false), some (.bool false), (t.g 16), (t.g 17), (t.g 18), (t.g 19), (t.g 20), (t.g 21), (t.g 22), (t.g 23), (t.g 24), (t.g 25), (t.g 26), (t.g 27), (t.g 28), (t.g 29), none, none, none, none, none, none, none, none, none, none, none, none, none, none, none, none] (hpL [bk 0 35 true 0 v.six]))) (fun i t => (∀ j, j < i → decide (((lenN (v.names.getD j []) : Nat) : Int) > 200) = false)) hlK1 ?_ ?_ ?_
      · exact Told.k (by kernel_rfl)
      · intro j hj; omega
      · intro i3 t3 hi3 hI3
        refine W.seq ?_
        refine W.seq ?_
        refine W.region ?_
        refine WO.adv 3 (by kernel_rfl) ?_
        refine WO.opc (fun h => names_len (K := K) (h := h) (v := v)) (by kernel_rfl) ?_
        refine WO.fin (by kernel_rfl) ?_
        refine W.cond (decide (((i3 : Nat) : Int) < ((v.names.length : Nat) : Int))) (by kernel_rfl) (fun hb4 => ?_) (fun hb4 => ?_)
        · refine W.sub 20 hb4 (by kernel_rfl) ?_
          refine W.skip ?_
          refine W.seq ?_
          refine W.block ?_
          refine W.seq ?_
          refine W.region ?_
          refine WO.adv 3 (by kernel_rfl) ?_
          refine WO.opc (fun h => names_at (K := K) (h := h) (v := v) (lt_of_dec hb4)) (by kernel_rfl) ?_
          refine WO.opc (fun h => name_get (K := K) (h := h) (v := v) (lt_of_dec hb4)) (by kernel_rfl) ?_
          refine WO.fin (by kernel_rfl) ?_
          refine W.cond (decide (((lenN (v.names.getD i3 []) : Nat) : Int) > 200)) (by kernel_rfl) (fun hb5 => ?_) (fun hb5 => ?_)
          · refine W.sub 29 hb5 (by kernel_rfl) ?_
            refine W.seq ?_
            refine W.region ?_
            refine WO.fin (by kernel_rfl) ?_
            refine W.ret ?_
            exact RetQ.k (v' := .int .i64 2) (by rw [valueErrI_eq, any_at v.names i3 (lt_of_dec hb4) (by rw [← lenN_eq]; exact hb5)]; rw [lenN_eq] at hb1; simp [hb1]) (by kernel_rfl) (by kernel_rfl)
          · refine W.sub 29 hb5 (by kernel_rfl) ?_
            refine W.skip ?_
            refine W.region ?_
            refine WO.fin (by kernel_rfl) ?_
            have hlt : i3 < v.names.length := ((lt_of_dec hb4))
            refine ⟨hlt, ?_, ?_⟩
            · intro j hj; rcases Nat.lt_succ_iff_lt_or_eq.1 hj with h | rfl <;> first | exact hI3 j h | exact hb5 | simpa using hb5
            · refine Told.put 3 (wrapA hlt hlen1) (by kernel_rfl) ?_
              exact Told.k (by kernel_rfl)
        · refine W.sub 20 hb4 (by kernel_rfl) ?_
          refine W.exit ?_
          refine blockQ ?_
          refine W.seq ?_
          refine W.seq ?_
          refine W.region ?_
          refine WO.fin (by kernel_rfl) ?_
          refine W.block ?_
          refine W.loopc (len := v.items.length) (fun i t => (S 46 [some (.agg v.six), some (.ptrO 0 0), (t.g 2), some (.int .i64 ((i3 : Nat) : Int)), some (.int .i64 ((i : Nat) : Int)), (t.g 5), some (.ptrO 0 3), some (.str v.s), some (.int .i64 ((lenN v.s : Nat) : Int)), some (.bool false), some (.bool false), some (.ptrO 0 4), some (v.namesA), some (.int .i64 ((v.names.length : Nat) : Int)), some (.bool false), some (.bool false), some (.int .i64 ((i3 : Nat) : Int)), some (.ptrO 0 4), some (v.namesA), some (.int .i64 ((v.names.length : Nat) : Int)), some (.bool false), (t.g 21), (t.g 22), (t.g 23), (t.g 24), (t.g 25), (t.g 26), (t.g 27), (t.g 28), (t.g 29), (t.g 30), (t.g 31), (t.g 32), (t.g 33), (t.g 34), (t.g 35), (t.g 36), (t.g 37), (t.g 38), (t.g 39), (t.g 40), (t.g 41), (t.g 42), (t.g 43), (t.g 44), (t.g 45)] (hpL [bk 0 35 true 0 v.six]))) (fun i t => (∀ j, j < i → valueErrI (v.items.getD j default) = 0)) hlK ?_ ?_ ?_
          · exact Told.k (by kernel_rfl)
          · intro j hj; omega
          · intro i6 t6 hi6 hI6
            refine W.seq ?_
            refine W.seq ?_
            refine W.region ?_
            refine WO.adv 3 (by kernel_rfl) ?_
            refine WO.opc (fun h => items_len (K := K) (h := h) (v := v)) (by kernel_rfl) ?_
            refine WO.fin (by kernel_rfl) ?_
            refine W.cond (decide (((i6 : Nat) : Int) < ((v.items.length : Nat) : Int))) (by kernel_rfl) (fun hb7 => ?_) (fun hb7 => ?_)
            · refine W.sub 34 hb7 (by kernel_rfl) ?_
              refine W.skip ?_
              refine W.seq ?_
              refine W.block ?_
              refine W.seq ?_
              refine W.region ?_
              refine WO.adv 3 (by kernel_rfl) ?_
              refine WO.opc (fun h => items_at (K := K) (h := h) (v := v) (lt_of_dec hb7)) (by kernel_rfl) ?_
              refine WO.opc (fun h => item_six (K := K) (h := h) (v := v) (lt_of_dec hb7)) (by kernel_rfl) ?_
              refine WO.callp (by kernel_rfl) (hrec i6 (lt_of_dec hb7) _) ?_
              refine WO.fin (by kernel_rfl) ?_
              refine W.seq ?_
              refine W.region ?_
              refine WO.fin (by kernel_rfl) ?_
              refine W.cond ((valueErrI (v.items.getD i6 default)) != 0) (by kernel_rfl) (fun hb8 => ?_) (fun hb8 => ?_)
              · refine W.sub 44 hb8 (by kernel_rfl) ?_
                refine W.seq ?_
                refine W.region ?_
                refine WO.fin (by kernel_rfl) ?_
                refine W.ret ?_
                exact RetQ.k (v' := .int .i64 (valueErrI (v.items.getD i6 default))) (by rw [valueErrI_eq, any_no v.names (fun j hj => by rw [← lenN_eq]; exact hI3 j (by have := end_eq hi3 hb4; omega)), valueErrL_at v.items i6 (lt_of_dec hb7) hI6 (by simpa using hb8)]; rw [lenN_eq] at hb1; simp [hb1, hb2]) (by kernel_rfl) (by kernel_rfl)
              · refine W.sub 44 hb8 (by kernel_rfl) ?_
                refine W.skip ?_
                refine W.region ?_
                refine WO.fin (by kernel_rfl) ?_
                have hlt : i6 < v.items.length := ((lt_of_dec hb7))
                refine ⟨hlt, ?_, ?_⟩
                · intro j hj; rcases Nat.lt_succ_iff_lt_or_eq.1 hj with h | rfl <;> first | exact hI6 j h | exact hb8 | simpa using hb8
                · refine Told.put 4 (wrapA hlt hlen) (by kernel_rfl) ?_
                  exact Told.k (by kernel_rfl)
            · refine W.sub 34 hb7 (by kernel_rfl) ?_
              refine W.exit ?_
              refine blockQ ?_
              refine W.seq ?_
              refine W.region ?_
              refine WO.fin (by kernel_rfl) ?_
              refine W.ret ?_
              exact RetQ.k (v' := .int .i64 0) (by rw [valueErrI_eq, any_no v.names (fun j hj => by rw [← lenN_eq]; exact hI3 j (by have := end_eq hi3 hb4; omega)), valueErrL_zero v.items (fun j hj => hI6 j (by have := end_eq hi6 hb7; omega))]; rw [lenN_eq] at hb1; simp [hb1, hb2]) (by kernel_rfl) (by kernel_rfl)

theorem valueErr_c (hK : big ≤ K) : ∀ (d : Nat) (v : Val), v.dep ≤ d → v.ok → ∀ n, d + 3 ≤ n → ∀ h, (fns (Cg K) n).call 41 [.agg v.six] h none = some (.val (.int .i64 (valueErrI v)) h none) := by
  intro d
  induction d with
  | zero => intro v hd; cases v; rw [Val.dep] at hd; omega
  | succ d ih =>
    intro v hd hv n hn h
    refine valueErr_c1 (by omega) v hv hK (fun m hm i hi h => ?_) h
    exact ih _ (by have := dep_item v hi; omega) (ok_item hv hi) m (by omega) h
end
end Go.Abs
namespace Go.Abs
noncomputable section
open Go Go.Proofs
variable {K : Nat}
def meetO (left : Int) (over : Bool) (deep : Int) : Bool := over || (decide (wrapF .i64 (left - 1) < 0) || decide (deep < 1))
mutual
def sizerV : Val → Int → Int × Bool → Int × Bool
  | .mk _ _ _ _ _ _ _ items, deep, s => bif meetO s.1 s.2 deep then (wrapF .i64 (s.1 - 1), meetO s.1 s.2 deep) else sizerL items (wrapF .i64 (deep - 1)) (wrapF .i64 (s.1 - 1), meetO s.1 s.2 deep)
def sizerL : List Val → Int → Int × Bool → Int × Bool
  | [], _, s => s
  | v :: l, d, s => bif s.2 then s else sizerL l d (sizerV v d s)
end
theorem sizerV_eq (v : Val) (deep : Int) (s : Int × Bool) : sizerV v deep s = bif meetO s.1 s.2 deep then (wrapF .i64 (s.1 - 1), meetO s.1 s.2 deep) else sizerL v.items (wrapF .i64 (deep - 1)) (wrapF .i64 (s.1 - 1), meetO s.1 s.2 deep) := by cases v; rw [sizerV]; rfl
theorem sizerL_stop (d : Int) (s : Int × Bool) (h : s.2 = true) : ∀ l, sizerL l d s = s
  | [] => by rw [sizerL]
  | v :: l => by rw [sizerL, h]; rfl
theorem sizerL_append (d : Int) : ∀ (l k : List Val) (s : Int × Bool), sizerL (l ++ k) d s = sizerL k d (sizerL l d s)
  | [], k, s => by rw [sizerL]; rfl
  | v :: l, k, s => by
    rw [List.cons_append, sizerL, sizerL]
    cases h : s.2 with
    | true => simp only [cond_true]; rw [sizerL_stop d s h]
    | false => simp only [cond_false]; exact sizerL_append d l k _
/-- behind so many items -/
def sizerT (v : Val) (deep : Int) (s : Int × Bool) (i : Nat) : Int × Bool := sizerL (v.items.take i) (wrapF .i64 (deep - 1)) s
theorem sizerT_succ (v : Val) (deep : Int) (s : Int × Bool) (i : Nat) (hi : i < v.items.length) (h : (sizerT v deep s i).2 = false) : sizerT v deep s (i + 1) = sizerV (v.items.getD i default) (wrapF .i64 (deep - 1)) (sizerT v deep s i) := by
  unfold sizerT at h ⊢
  rw [List.take_add_one, List.getElem?_eq_getElem hi, Option.toList_some, sizerL_append, sizerL, h]
  simp only [cond_false]
  rw [sizerL, List.getD_eq_getElem?_getD, List.getElem?_eq_getElem hi]; rfl
theorem sizerT_end (v : Val) (deep : Int) (s : Int × Bool) (i : Nat) (hi : i = v.items.length) : sizerT v deep s i = sizerL v.items (wrapF .i64 (deep - 1)) s := by subst hi; unfold sizerT; rw [List.take_length]
theorem sizerT_over (v : Val) (deep : Int) (s : Int × Bool) (i : Nat) (h : (sizerT v deep s i).2 = true) : sizerT v deep s i = sizerL v.items (wrapF .i64 (deep - 1)) s := by
  unfold sizerT at h ⊢
  conv => rhs; rw [← List.take_append_drop i v.items]
  rw [sizerL_append, sizerL_stop _ _ h]
set_option maxRecDepth 20000 in
theorem meet_c {n : Nat}  (hn : 1 ≤ n) (left : Int) (over : Bool) (deep : Int)  {i g ver : Nat} {h : Heap} (hg : h.get i = some (bk g 123 true ver [.int .i64 left, .bool over])) :
    (fns (Cg K) n).call 85 ((.ptrO i 0) :: (.int .i64 deep) :: []) h none = some (.val (.bool (!(meetO left over deep))) (h.set i (bk g 123 true (Nat.succ ver) [.int .i64 (wrapF .i64 (left - 1)), .bool (meetO left over deep)])) none) := by
  obtain ⟨m, rfl⟩ : ∃ m, n = m + 1 := ⟨n - 1, by omega⟩
  refine ownq (y := (.ptrO 0 0)) (C := Cg K) (F := fns (Cg K) m) (fn := Tryz.f85) (c := bodyOf Tryz.f85) (by kernel_rfl) (by kernel_rfl) (by kernel_rfl) hg (by kernel_rfl) (by kernel_rfl) (by kernel_rfl) (by kernel_rfl) (by kernel_rfl) (by kernel_rfl) (by kernel_rfl) ?_
  refine W.seq ?_
  refine W.region ?_
  refine WO.fin (by kernel_rfl) ?_
  refine W.seq ?_
  refine W.region ?_
  refine WO.fin (by kernel_rfl) ?_
  refine W.seq ?_
  refine W.region ?_
  refine WO.adv 6 (by kernel_rfl) ?_
  refine splitB over (fun hb1 => ?_) (fun hb1 => ?_)
  · refine WO.sub 17 hb1 (by kernel_rfl) ?_
    refine WO.sub 18 hb1 (by kernel_rfl) ?_
    refine WO.subc 0 1 hb1 (by kernel_rfl) ?_
    refine WO.fin (by kernel_rfl) ?_
    refine W.seq ?_
    refine W.region ?_
    refine WO.fin (by kernel_rfl) ?_
    refine W.ret ?_
    exact RetO.k (v' := .bool false) (cs' := [.int .i64 (wrapF .i64 (left - 1)), .bool true]) (ver := 2) (by simp [meetO, *]) (by simp [meetO, *]) (by kernel_rfl) (by kernel_rfl) (by kernel_rfl)
  · refine WO.sub 17 hb1 (by kernel_rfl) ?_
    refine WO.sub 18 hb1 (by kernel_rfl) ?_
    refine WO.subc 0 1 hb1 (by kernel_rfl) ?_
    refine WO.adv 7 (by kernel_rfl) ?_
    refine splitB (decide ((wrapF .i64 (left - 1)) < 0)) (fun hb2 => ?_) (fun hb2 => ?_)
    · refine WO.sub 23 hb2 (by kernel_rfl) ?_
      refine WO.sub 24 hb2 (by kernel_rfl) ?_
      refine WO.sub 25 hb2 (by kernel_rfl) ?_
      refine WO.fin (by kernel_rfl) ?_
      refine W.seq ?_
      refine W.region ?_
      refine WO.fin (by kernel_rfl) ?_
      refine W.ret ?_
      exact RetO.k (v' := .bool false) (cs' := [.int .i64 (wrapF .i64 (left - 1)), .bool true]) (ver := 2) (by simp [meetO, *]) (by simp [meetO, *]) (by kernel_rfl) (by kernel_rfl) (by kernel_rfl)
    · refine WO.sub 23 hb2 (by kernel_rfl) ?_
      refine WO.sub 24 hb2 (by kernel_rfl) ?_
      refine WO.sub 25 hb2 (by kernel_rfl) ?_
      refine WO.fin (by kernel_rfl) ?_
      refine W.seq ?_
      refine W.region ?_
      refine WO.fin (by kernel_rfl) ?_
      refine W.ret ?_
      exact RetO.k (v' := .bool (!(decide (deep < 1)))) (cs' := [.int .i64 (wrapF .i64 (left - 1)), .bool (decide (deep < 1))]) (ver := 2) (by simp [meetO, *]) (by simp [meetO, *]) (by kernel_rfl) (by kernel_rfl) (by kernel_rfl)

set_option maxRecDepth 20000 in
theorem sizer_c1 {n : Nat}  (hn : 2 ≤ n) (v : Val) (hv : v.ok) (hK : big ≤ K) (deep a : Int) (b : Bool) (hrec0 : ∀ m, m + 1 = n → ∀ i, i < v.items.length → ∀ (a : Int) (b : Bool) {j g ver : Nat} {h : Heap}, h.get j = some (bk g 123 true ver [.int .i64 a, .bool b]) → (fns (Cg K) m).call 60 [.ptrO j 0, .agg (v.items.getD i default).six, .int .i64 (wrapF .i64 (deep - 1))] h none = some (.val (.tup []) (h.set j (bk g 123 true (Nat.succ ver) [.int .i64 (sizerV (v.items.getD i default) (wrapF .i64 (deep - 1)) (a, b)).1, .bool (sizerV (v.items.getD i default) (wrapF .i64 (deep - 1)) (a, b)).2])) none)) {i g ver : Nat} {h : Heap} (hg : h.get i = some (bk g 123 true ver [.int .i64 a, .bool b])) :
    (fns (Cg K) n).call 60 ((.ptrO i 0) :: (.agg v.six) :: (.int .i64 deep) :: []) h none = some (.val (.tup []) (h.set i (bk g 123 true (Nat.succ ver) [.int .i64 (sizerV v deep (a, b)).1, .bool (sizerV v deep (a, b)).2])) none) := by
  obtain ⟨m, rfl⟩ : ∃ m, n = m + 1 := ⟨n - 1, by omega⟩
  have hlt := ok_items hv
  have hlen : v.items.length ≤ 9223372036854775807 := by unfold big at hlt; omega
  have hlK : v.items.length < (Cg K).loops := by rw [loops_eq]; omega
  have hrec : ∀ i, i < v.items.length → ∀ (a : Int) (b : Bool) {j g ver : Nat} {h : Heap}, h.get j = some (bk g 123 true ver [.int .i64 a, .bool b]) → (fns (Cg K) m).call 60 [.ptrO j 0, .agg (v.items.getD i default).six, .int .i64 (wrapF .i64 (deep - 1))] h none = some (.val (.tup []) (h.set j (bk g 123 true (Nat.succ ver) [.int .i64 (sizerV (v.items.getD i default) (wrapF .i64 (deep - 1)) (a, b)).1, .bool (sizerV (v.items.getD i default) (wrapF .i64 (deep - 1)) (a, b)).2])) none) := hrec0 m rfl
  clear hrec0
  refine ownq (y := (.ptrO 0 0)) (C := Cg K) (F := fns (Cg K) m) (fn := Tryz.f60) (c := bodyOf Tryz.f60) (by kernel_rfl) (by kernel_rfl) (by kernel_rfl) hg (by kernel_rfl) (by kernel_rfl) (by kernel_rfl) (noL (aggSix _) (noL (by kernel_rfl) rfl)) (by kernel_rfl) (by kernel_rfl) (by kernel_rfl) ?_
  refine W.seq ?_
  refine W.region ?_
  refine WO.fin (by kernel_rfl) ?_
  refine W.seq ?_
  refine W.seq ?_
  refine W.region ?_
  refine WO.adv 2 (by kernel_rfl) ?_
  refine WO.callh (by kernel_rfl) rfl (meet_c (n := m) (i := 0) (g := 0) (ver := 0)  (by omega) a b deep (by kernel_rfl)) ?_
  refine WO.fin (by kernel_rfl) ?_
  refine W.cond (!(!(meetO a b deep))) (by kernel_rfl) (fun hb1 => ?_) (fun hb1 => ?_)
  · refine W.sub 10 hb1 (by kernel_rfl) ?_
    refine W.ret ?_
    exact RetO.k (v' := .tup []) (cs' := [.int .i64 (wrapF .i64 (a - 1)), .bool (meetO a b deep)]) (ver := (Nat.succ 0)) (by rfl) (by rw [sizerV_eq]; simp only [Bool.not_not] at hb1; simp only [hb1, cond_true, cond_false]) (by kernel_rfl) (by kernel_rfl) (by kernel_rfl)
  · refine W.sub 10 hb1 (by kernel_rfl) ?_
    refine W.skip ?_
    refine W.seq ?_
    refine W.region ?_
    refine WO.fin (by kernel_rfl) ?_
    refine W.block ?_
    refine W.loopc (len := v.items.length) (fun i t => (S 34 [some (.ptrO 0 0), some (.agg v.six), some (.int .i64 deep), none, some (.ptrO 1 0), none, some (.int .i64 ((i : Nat) : Int)), some (.ptrO 0 0), some (.int .i64 deep), some (.bool (!(meetO a b deep))), some (.bool false), (t.g 11), (t.g 12), (t.g 13), (t.g 14), (t.g 15), (t.g 16), (t.g 17), (t.g 18), (t.g 19), (t.g 20), (t.g 21), (t.g 22), (t.g 23), (t.g 24), (t.g 25), (t.g 26), (t.g 27), (t.g 28), (t.g 29), (t.g 30), (t.g 31), (t.g 32), (t.g 33)] (hpL [bk 0 123 true (t.vr 0) [.int .i64 ((sizerT v deep (wrapF .i64 (a - 1), meetO a b deep) i).1), .bool ((sizerT v deep (wrapF .i64 (a - 1), meetO a b deep) i).2)], bk 1 35 true 0 v.six]))) (fun i t => (True)) hlK ?_ ?_ ?_
    · exact Told.k (by kernel_rfl)
    · trivial
    · intro i2 t2 hi2 hI2
      refine W.seq ?_
      refine W.seq ?_
      refine W.region ?_
      refine WO.adv 3 (by kernel_rfl) ?_
      refine WO.opc (fun h => items_len (K := K) (h := h) (v := v)) (by kernel_rfl) ?_
      refine WO.adv 2 (by kernel_rfl) ?_
      refine splitB (decide (((i2 : Nat) : Int) < ((v.items.length : Nat) : Int))) (fun hb3 => ?_) (fun hb3 => ?_)
      · refine WO.sub 15 hb3 (by kernel_rfl) ?_
        refine WO.sub 16 hb3 (by kernel_rfl) ?_
        refine WO.fin (by kernel_rfl) ?_
        refine W.cond (!((sizerT v deep (wrapF .i64 (a - 1), meetO a b deep) i2).2)) (by kernel_rfl) (fun hb4 => ?_) (fun hb4 => ?_)
        · refine W.sub 21 hb4 (by kernel_rfl) ?_
          refine W.sub 22 hb4 (by kernel_rfl) ?_
          refine W.skip ?_
          refine W.seq ?_
          refine W.block ?_
          refine W.region ?_
          refine WO.adv 4 (by kernel_rfl) ?_
          refine WO.opc (fun h => items_at (K := K) (h := h) (v := v) (lt_of_dec hb3)) (by kernel_rfl) ?_
          refine WO.opc (fun h => item_six (K := K) (h := h) (v := v) (lt_of_dec hb3)) (by kernel_rfl) ?_
          refine WO.adv 2 (by kernel_rfl) ?_
          refine WO.callh (by kernel_rfl) rfl (hrec i2 (lt_of_dec hb3) ((sizerT v deep (wrapF .i64 (a - 1), meetO a b deep) i2).1) ((sizerT v deep (wrapF .i64 (a - 1), meetO a b deep) i2).2) (j := 0) (g := 0) (ver := (t2.vr 0))  (by kernel_rfl)) ?_
          refine WO.nil ?_
          refine W.region ?_
          refine WO.fin (by kernel_rfl) ?_
          have hlt : i2 < v.items.length := ((lt_of_dec hb3))
          refine ⟨hlt, ?_, ?_⟩
          · trivial
          · refine Told.put 6 (wrapA hlt hlen) (by kernel_rfl) ?_
            refine Told.putc 0 0 (congrArg (AV.int .i64) (congrArg Prod.fst (sizerT_succ v deep _ i2 hlt (by simpa using hb4)).symm)) (by kernel_rfl) ?_
            refine Told.putc 0 1 (congrArg (AV.bool) (congrArg Prod.snd (sizerT_succ v deep _ i2 hlt (by simpa using hb4)).symm)) (by kernel_rfl) ?_
            exact Told.k (by kernel_rfl)
        · refine W.sub 21 hb4 (by kernel_rfl) ?_
          refine W.sub 22 hb4 (by kernel_rfl) ?_
          refine W.exit ?_
          refine blockQ ?_
          exact RetO.kn (v' := .tup []) (cs' := [.int .i64 ((sizerT v deep (wrapF .i64 (a - 1), meetO a b deep) i2).1), .bool ((sizerT v deep (wrapF .i64 (a - 1), meetO a b deep) i2).2)]) (ver := (t2.vr 0)) (by rfl) (by rw [sizerV_eq]; simp only [Bool.not_not] at hb1; simp only [hb1, cond_true, cond_false]; simp only [hb1] at hb4; rw [sizerT_over v deep _ i2 (by simpa using hb4)]) (by kernel_rfl) (by kernel_rfl) (by kernel_rfl)
      · refine WO.sub 15 hb3 (by kernel_rfl) ?_
        refine WO.sub 16 hb3 (by kernel_rfl) ?_
        refine WO.fin (by kernel_rfl) ?_
        refine W.cond false (by kernel_rfl) (fun h => by cases h) (fun _ => ?_)
        refine W.exit ?_
        refine blockQ ?_
        exact RetO.kn (v' := .tup []) (cs' := [.int .i64 ((sizerT v deep (wrapF .i64 (a - 1), meetO a b deep) i2).1), .bool ((sizerT v deep (wrapF .i64 (a - 1), meetO a b deep) i2).2)]) (ver := (t2.vr 0)) (by rfl) (by rw [sizerV_eq]; simp only [Bool.not_not] at hb1; simp only [hb1, cond_true, cond_false]; rw [sizerT_end v deep _ i2 (end_eq hi2 hb3)]) (by kernel_rfl) (by kernel_rfl) (by kernel_rfl)

theorem sizer_c (hK : big ≤ K) : ∀ (d : Nat) (v : Val), v.dep ≤ d → v.ok → ∀ n, d + 3 ≤ n → ∀ (deep a : Int) (b : Bool) {j g ver : Nat} {h : Heap}, h.get j = some (bk g 123 true ver [.int .i64 a, .bool b]) →
    (fns (Cg K) n).call 60 [.ptrO j 0, .agg v.six, .int .i64 deep] h none = some (.val (.tup []) (h.set j (bk g 123 true (Nat.succ ver) [.int .i64 (sizerV v deep (a, b)).1, .bool (sizerV v deep (a, b)).2])) none) := by
  intro d
  induction d with
  | zero => intro v hd; cases v; rw [Val.dep] at hd; omega
  | succ d ih =>
    intro v hd hv n hn deep a b j g ver h hg
    refine sizer_c1 (by omega) v hv hK deep a b (fun m hm i hi a b j g ver h hg => ?_) hg
    exact ih _ (by have := dep_item v hi; omega) (ok_item hv hi) m (by omega) _ a b hg
def smallB (v : Val) (n : Int) : Bool := !(sizerV v 8 (n, false)).2
set_option maxRecDepth 20000 in
theorem isSmall_c {n : Nat} {d : Nat} (hn : d + 4 ≤ n) (v : Val) (hd : v.dep ≤ d) (hv : v.ok) (hK : big ≤ K) (z : Int)  (h : Heap) : (fns (Cg K) n).call 40 [.agg v.six, .int .i64 z] h none = some (.val (.bool (smallB v z)) h none) := by
  obtain ⟨m, rfl⟩ : ∃ m, n = m + 1 := ⟨n - 1, by omega⟩
  refine pureq (C := Cg K) (F := fns (Cg K) m) (fn := Tryz.f40) (c := bodyOf Tryz.f40) (by kernel_rfl) (by kernel_rfl) (by kernel_rfl) (noL (aggSix _) (noL (by kernel_rfl) rfl)) (by kernel_rfl) (by kernel_rfl) (by kernel_rfl) ?_ h
  refine W.seq ?_
  refine W.region ?_
  refine WO.fin (by kernel_rfl) ?_
  refine W.seq ?_
  refine W.region ?_
  refine WO.fin (by kernel_rfl) ?_
  refine W.seq ?_
  refine W.region ?_
  refine WO.adv 2 (by kernel_rfl) ?_
  refine WO.callh (by kernel_rfl) rfl (sizer_c hK d v hd hv m (by omega) 8 z false (j := 1) (g := 1) (ver := 0)  (by kernel_rfl)) ?_
  refine WO.nil ?_
  refine W.seq ?_
  refine W.region ?_
  refine WO.fin (by kernel_rfl) ?_
  refine W.ret ?_
  exact RetQ.k (v' := .bool (!((sizerV v 8 (z, false)).2))) (by rfl) (by kernel_rfl) (by kernel_rfl)

end
end Go.Abs
namespace Go.Abs
noncomputable section
open Go Go.Proofs
variable {K : Nat}
/-- the reference's error of an event -/
def evErr (e : Ev) : Int :=
  bif !(withinB e.comp (-1) 5) || !(isNum e.other) then 3 else bif !(withinB e.kind 0 10) then 4 else
  bif decide (((lenN e.text : Nat) : Int) > 200) || (decide (((lenN e.name : Nat) : Int) > 200) || !(smallB e.val 120)) then 2 else
  bif valueErrI e.val != 0 then valueErrI e.val else bif !(inRangeB e.val) then 3 else 0
set_option maxRecDepth 20000 in
theorem eventErr_c {n : Nat} {d : Nat} (hn : d + 5 ≤ n) (e : Ev) (hd : e.val.dep ≤ d) (hv : e.val.ok) (hK : big ≤ K)  (h : Heap) : (fns (Cg K) n).call 21 [.agg e.elv] h none = some (.val (.int .i64 (evErr e)) h none) := by
  obtain ⟨m, rfl⟩ : ∃ m, n = m + 1 := ⟨n - 1, by omega⟩
  refine pureq (C := Cg K) (F := fns (Cg K) m) (fn := Tryz.f21) (c := bodyOf Tryz.f21) (by kernel_rfl) (by kernel_rfl) (by kernel_rfl) (noL (aggElv _) rfl) (by kernel_rfl) (by kernel_rfl) (by kernel_rfl) ?_ h
  refine W.seq ?_
  refine W.region ?_
  refine WO.fin (by kernel_rfl) ?_
  refine W.seq ?_
  refine W.seq ?_
  refine W.region ?_
  refine WO.adv 2 (by kernel_rfl) ?_
  refine WO.callp (by kernel_rfl) (within_c (n := m) (by omega) e.comp (-1) 5 _) ?_
  refine WO.adv 2 (by kernel_rfl) ?_
  refine splitB (!(withinB e.comp (-1) 5)) (fun hb1 => ?_) (fun hb1 => ?_)
  · refine WO.sub 7 hb1 (by kernel_rfl) ?_
    refine WO.sub 8 hb1 (by kernel_rfl) ?_
    refine WO.fin (by kernel_rfl) ?_
    refine W.cond true (by kernel_rfl) (fun _ => ?_) (fun h => by cases h)
    refine W.seq ?_
    refine W.region ?_
    refine WO.fin (by kernel_rfl) ?_
    refine W.ret ?_
    exact RetQ.k (v' := .int .i64 3) (by unfold evErr; simp only [Bool.not_eq_true', Bool.not_eq_false'] at hb1; simp [hb1]) (by kernel_rfl) (by kernel_rfl)
  · refine WO.sub 7 hb1 (by kernel_rfl) ?_
    refine WO.sub 8 hb1 (by kernel_rfl) ?_
    refine WO.adv 2 (by kernel_rfl) ?_
    refine WO.callp (by kernel_rfl) (isNumber_c (n := m) (by omega) e.other _) ?_
    refine WO.fin (by kernel_rfl) ?_
    refine W.cond (!(isNum e.other)) (by kernel_rfl) (fun hb2 => ?_) (fun hb2 => ?_)
    · refine W.sub 12 hb2 (by kernel_rfl) ?_
      refine W.sub 13 hb2 (by kernel_rfl) ?_
      refine W.seq ?_
      refine W.region ?_
      refine WO.fin (by kernel_rfl) ?_
      refine W.ret ?_
      exact RetQ.k (v' := .int .i64 3) (by unfold evErr; simp only [Bool.not_eq_true', Bool.not_eq_false'] at hb1 hb2; simp [hb1, hb2]) (by kernel_rfl) (by kernel_rfl)
    · refine W.sub 12 hb2 (by kernel_rfl) ?_
      refine W.sub 13 hb2 (by kernel_rfl) ?_
      refine W.skip ?_
      refine W.seq ?_
      refine W.seq ?_
      refine W.region ?_
      refine WO.adv 2 (by kernel_rfl) ?_
      refine WO.callp (by kernel_rfl) (within_c (n := m) (by omega) e.kind 0 10 _) ?_
      refine WO.fin (by kernel_rfl) ?_
      refine W.cond (!(withinB e.kind 0 10)) (by kernel_rfl) (fun hb3 => ?_) (fun hb3 => ?_)
      · refine W.sub 17 hb3 (by kernel_rfl) ?_
        refine W.seq ?_
        refine W.region ?_
        refine WO.fin (by kernel_rfl) ?_
        refine W.ret ?_
        exact RetQ.k (v' := .int .i64 4) (by unfold evErr; simp only [Bool.not_eq_true', Bool.not_eq_false'] at hb1 hb2 hb3; simp [hb1, hb2, hb3]) (by kernel_rfl) (by kernel_rfl)
      · refine W.sub 17 hb3 (by kernel_rfl) ?_
        refine W.skip ?_
        refine W.seq ?_
        refine W.seq ?_
        refine W.region ?_
        refine WO.adv 5 (by kernel_rfl) ?_
        refine splitB (decide (((lenN e.text : Nat) : Int) > 200)) (fun hb4 => ?_) (fun hb4 => ?_)
        · refine WO.sub 21 hb4 (by kernel_rfl) ?_
          refine WO.sub 22 hb4 (by kernel_rfl) ?_
          refine WO.fin (by kernel_rfl) ?_
          refine W.cond true (by kernel_rfl) (fun _ => ?_) (fun h => by cases h)
          refine W.seq ?_
          refine W.region ?_
          refine WO.fin (by kernel_rfl) ?_
          refine W.ret ?_
          exact RetQ.k (v' := .int .i64 2) (by unfold evErr; simp only [Bool.not_eq_true', Bool.not_eq_false'] at hb1 hb2 hb3; simp [hb1, hb2, hb3, hb4]) (by kernel_rfl) (by kernel_rfl)
        · refine WO.sub 21 hb4 (by kernel_rfl) ?_
          refine WO.sub 22 hb4 (by kernel_rfl) ?_
          refine WO.adv 6 (by kernel_rfl) ?_
          refine splitB (decide (((lenN e.name : Nat) : Int) > 200)) (fun hb5 => ?_) (fun hb5 => ?_)
          · refine WO.sub 26 hb5 (by kernel_rfl) ?_
            refine WO.sub 27 hb5 (by kernel_rfl) ?_
            refine WO.sub 28 hb5 (by kernel_rfl) ?_
            refine WO.fin (by kernel_rfl) ?_
            refine W.cond true (by kernel_rfl) (fun _ => ?_) (fun h => by cases h)
            refine W.seq ?_
            refine W.region ?_
            refine WO.fin (by kernel_rfl) ?_
            refine W.ret ?_
            exact RetQ.k (v' := .int .i64 2) (by unfold evErr; simp only [Bool.not_eq_true', Bool.not_eq_false'] at hb1 hb2 hb3; simp [hb1, hb2, hb3, hb4, hb5]) (by kernel_rfl) (by kernel_rfl)
          · refine WO.sub 26 hb5 (by kernel_rfl) ?_
            refine WO.sub 27 hb5 (by kernel_rfl) ?_
            refine WO.sub 28 hb5 (by kernel_rfl) ?_
            refine WO.adv 2 (by kernel_rfl) ?_
            refine WO.callp (by kernel_rfl) (isSmall_c (n := m) (d := d) (by omega) e.val hd hv hK 120 _) ?_
            refine WO.fin (by kernel_rfl) ?_
            refine W.cond (!(smallB e.val 120)) (by kernel_rfl) (fun hb6 => ?_) (fun hb6 => ?_)
            · refine W.sub 32 hb6 (by kernel_rfl) ?_
              refine W.sub 33 hb6 (by kernel_rfl) ?_
              refine W.seq ?_
              refine W.region ?_
              refine WO.fin (by kernel_rfl) ?_
              refine W.ret ?_
              exact RetQ.k (v' := .int .i64 2) (by unfold evErr; simp only [Bool.not_eq_true', Bool.not_eq_false'] at hb1 hb2 hb3 hb6; simp [hb1, hb2, hb3, hb4, hb5, hb6]) (by kernel_rfl) (by kernel_rfl)
            · refine W.sub 32 hb6 (by kernel_rfl) ?_
              refine W.sub 33 hb6 (by kernel_rfl) ?_
              refine W.skip ?_
              refine W.seq ?_
              refine W.seq ?_
              refine W.region ?_
              refine WO.adv 2 (by kernel_rfl) ?_
              refine WO.callp (by kernel_rfl) (valueErr_c hK d e.val hd hv m (by omega) _) ?_
              refine WO.fin (by kernel_rfl) ?_
              refine W.seq ?_
              refine W.region ?_
              refine WO.fin (by kernel_rfl) ?_
              refine W.cond ((valueErrI e.val) != 0) (by kernel_rfl) (fun hb7 => ?_) (fun hb7 => ?_)
              · refine W.sub 38 hb7 (by kernel_rfl) ?_
                refine W.seq ?_
                refine W.region ?_
                refine WO.fin (by kernel_rfl) ?_
                refine W.ret ?_
                exact RetQ.k (v' := .int .i64 (valueErrI e.val)) (by unfold evErr; simp only [Bool.not_eq_true', Bool.not_eq_false'] at hb1 hb2 hb3 hb6; simp [hb1, hb2, hb3, hb4, hb5, hb6, hb7]) (by kernel_rfl) (by kernel_rfl)
              · refine W.sub 38 hb7 (by kernel_rfl) ?_
                refine W.skip ?_
                refine W.seq ?_
                refine W.seq ?_
                refine W.region ?_
                refine WO.adv 2 (by kernel_rfl) ?_
                refine WO.callp (by kernel_rfl) (inRange_c hK d e.val hd hv m (by omega) _) ?_
                refine WO.fin (by kernel_rfl) ?_
                refine W.cond (!(inRangeB e.val)) (by kernel_rfl) (fun hb8 => ?_) (fun hb8 => ?_)
                · refine W.sub 43 hb8 (by kernel_rfl) ?_
                  refine W.seq ?_
                  refine W.region ?_
                  refine WO.fin (by kernel_rfl) ?_
                  refine W.ret ?_
                  exact RetQ.k (v' := .int .i64 3) (by unfold evErr; simp only [Bool.not_eq_true', Bool.not_eq_false'] at hb1 hb2 hb3 hb6 hb8; simp [hb1, hb2, hb3, hb4, hb5, hb6, hb7, hb8]) (by kernel_rfl) (by kernel_rfl)
                · refine W.sub 43 hb8 (by kernel_rfl) ?_
                  refine W.skip ?_
                  refine W.seq ?_
                  refine W.region ?_
                  refine WO.fin (by kernel_rfl) ?_
                  refine W.ret ?_
                  exact RetQ.k (v' := .int .i64 0) (by unfold evErr; simp only [Bool.not_eq_true', Bool.not_eq_false'] at hb1 hb2 hb3 hb6 hb8; simp [hb1, hb2, hb3, hb4, hb5, hb6, hb7, hb8]) (by kernel_rfl) (by kernel_rfl)

end
end Go.Abs
namespace Go.Abs
noncomputable section
open Go Go.Proofs
/-! ## Heaps of which some blocks are known -/
section
variable {C : Cfg} {h : Heap} {id j g g' el el' ver ver' : Nat} {wh wh' : Bool} {cs cs' : List AV} {b c : Blk}
theorem gss : (h.set id b).get id = some b := by rw [get_set, if_pos rfl]
theorem gso (hne : j ≠ id) (hg : h.get j = some c) : (h.set id b).get j = some c := by rw [get_set, if_neg hne]; exact hg
theorem gnew : (h.new el wh cs).get h.next = some (bk h.next el wh 0 cs) := by rw [get_new, if_pos rfl]; rfl
theorem gnewo (hne : j < h.next) (hg : h.get j = some c) : (h.new el wh cs).get j = some c := by rw [get_new, if_neg (by omega)]; exact hg
theorem nnew : (h.new el wh cs).next = h.next + 1 := rfl
theorem nset : (h.set id b).next = h.next := rfl

theorem load_k {t off : Nat} {v : AV} (hg : h.get id = some (bk g el wh ver cs)) (hv : (match partN cs off (sizeT C t) with | some c => mkT C t c | none => none) = some v) : keep h (opLoad C h t (.ptrO id off)) = some (v, h) := by
  have h1 : opLoad C h t (.ptrO id off) = some v := by
    unfold opLoad readAt
    simp only
    unfold cellsAt
    rw [hg]
    exact hv
  rw [h1]; rfl
theorem store_k {t off : Nat} {x : AV} (hg : h.get id = some (bk g el wh ver cs)) (hx : ((plainA x && knownT C t) && Nat.beq (lenN x.cells) (sizeT C t) && Nat.ble (Nat.add off (lenN x.cells)) (lenN cs)) = true) (hc : setCells cs off x.cells = cs') :
    opStore C h t (.ptrO id off) x = some (.tup [], h.set id (bk g el wh (Nat.succ ver) cs')) := by
  rw [Bool.and_eq_true] at hx
  unfold opStore
  simp only [hx.1, cond_true]
  unfold storeAt
  rw [hg]
  simp only
  have h2 := hx.2
  subst hc
  unfold bk
  simp only
  rw [h2]
  rfl
end
end
end Go.Abs
namespace Go.Abs
noncomputable section
open Go Go.Proofs
variable {K : Nat}
def orI (a b : Int) : Int := bif a != 0 then a else b
set_option maxRecDepth 20000 in
theorem or_c {n : Nat}  (hn : 1 ≤ n) (a b : Int) (hK : big ≤ K)  {i g ver : Nat} {h : Heap} (hg : h.get i = some (bk g 24 true ver [.int .i64 a, .int .i64 b])) :
    (fns (Cg K) n).call 37 ((.slO i 0 1 2 2 true) :: []) h none = some (.val (.int .i64 (orI a b)) (h.set i (bk g 24 true (Nat.succ ver) [.int .i64 a, .int .i64 b])) none) := by
  obtain ⟨m, rfl⟩ : ∃ m, n = m + 1 := ⟨n - 1, by omega⟩
  refine ownq (y := (.slO 0 0 1 2 2 true)) (C := Cg K) (F := fns (Cg K) m) (fn := Tryz.f37) (c := bodyOf Tryz.f37) (by kernel_rfl) (by kernel_rfl) (by kernel_rfl) hg (by kernel_rfl) (by kernel_rfl) (by kernel_rfl) (by kernel_rfl) (by kernel_rfl) (by kernel_rfl) (by kernel_rfl) ?_
  refine W.seq ?_
  refine W.region ?_
  refine WO.fin (by kernel_rfl) ?_
  refine W.seq ?_
  refine W.region ?_
  refine WO.fin (by kernel_rfl) ?_
  refine W.seq ?_
  refine W.seq ?_
  refine W.region ?_
  refine WO.fin (by kernel_rfl) ?_
  refine W.block ?_
  refine W.unroll ?_
  refine WI.step (by rw [loops_eq]; unfold big at hK; omega) ?_
  refine W.seq ?_
  refine W.region ?_
  refine WO.fin (by kernel_rfl) ?_
  refine W.seq ?_
  refine W.cond true (by kernel_rfl) (fun _ => ?_) (fun h => by cases h)
  refine W.skip ?_
  refine W.seq ?_
  refine W.block ?_
  refine W.seq ?_
  refine W.region ?_
  refine WO.fin (by kernel_rfl) ?_
  refine W.seq ?_
  refine W.region ?_
  refine WO.fin (by kernel_rfl) ?_
  refine W.cond (a != 0) (by kernel_rfl) (fun hb1 => ?_) (fun hb1 => ?_)
  · refine W.sub 14 hb1 (by kernel_rfl) ?_
    refine W.seq ?_
    refine W.region ?_
    refine WO.fin (by kernel_rfl) ?_
    refine W.ret ?_
    exact RetO.k (v' := .int .i64 a) (cs' := [.int .i64 a, .int .i64 b]) (ver := 0) (by unfold orI; simp [hb1]) (by rfl) (by kernel_rfl) (by kernel_rfl) (by kernel_rfl)
  · refine W.sub 14 hb1 (by kernel_rfl) ?_
    refine W.skip ?_
    refine W.region ?_
    refine WO.fin (by kernel_rfl) ?_
    refine WI.step (by rw [loops_eq]; unfold big at hK; omega) ?_
    refine W.seq ?_
    refine W.region ?_
    refine WO.fin (by kernel_rfl) ?_
    refine W.seq ?_
    refine W.cond true (by kernel_rfl) (fun _ => ?_) (fun h => by cases h)
    refine W.skip ?_
    refine W.seq ?_
    refine W.block ?_
    refine W.seq ?_
    refine W.region ?_
    refine WO.fin (by kernel_rfl) ?_
    refine W.seq ?_
    refine W.region ?_
    refine WO.fin (by kernel_rfl) ?_
    refine W.cond (b != 0) (by kernel_rfl) (fun hb2 => ?_) (fun hb2 => ?_)
    · refine W.sub 14 hb2 (by kernel_rfl) ?_
      refine W.seq ?_
      refine W.region ?_
      refine WO.fin (by kernel_rfl) ?_
      refine W.ret ?_
      exact RetO.k (v' := .int .i64 b) (cs' := [.int .i64 a, .int .i64 b]) (ver := 0) (by unfold orI; simp [hb1, hb2]) (by rfl) (by kernel_rfl) (by kernel_rfl) (by kernel_rfl)
    · refine W.sub 14 hb2 (by kernel_rfl) ?_
      refine W.skip ?_
      refine W.region ?_
      refine WO.fin (by kernel_rfl) ?_
      refine WI.step (by rw [loops_eq]; unfold big at hK; omega) ?_
      refine W.seq ?_
      refine W.region ?_
      refine WO.fin (by kernel_rfl) ?_
      refine W.seq ?_
      refine W.cond false (by kernel_rfl) (fun h => by cases h) (fun _ => ?_)
      refine W.exit ?_
      refine blockQ ?_
      refine W.seq ?_
      refine W.region ?_
      refine WO.fin (by kernel_rfl) ?_
      refine W.ret ?_
      exact RetO.k (v' := .int .i64 0) (cs' := [.int .i64 a, .int .i64 b]) (ver := 0) (by unfold orI; simp [hb1]; try simpa using hb2) (by rfl) (by kernel_rfl) (by kernel_rfl) (by kernel_rfl)

def longB (s : List UInt8) : Bool := decide (((lenN s : Nat) : Int) > 200)
def firstLong : Nat → List (List UInt8) → Int
  | _, [] => -1
  | i, s :: l => bif longB s then ((i : Nat) : Int) else firstLong (i + 1) l
theorem firstLong_at : ∀ (l : List (List UInt8)) (k i : Nat), i < l.length → (∀ j, j < i → longB (l.getD j []) = false) → longB (l.getD i []) = true → firstLong k l = ((k + i : Nat) : Int)
  | [], _, i, hi, _, _ => by cases hi
  | a :: l, k, 0, _, _, h => by
    have h : longB a = true := h
    rw [firstLong, h]; rfl
  | a :: l, k, i + 1, hi, h0, h => by
    have h1 : longB a = false := h0 0 (by omega)
    rw [firstLong, h1]
    have := firstLong_at l (k + 1) i (by simpa using hi) (fun j hj => h0 (j + 1) (by omega)) h
    rw [show k + (i + 1) = k + 1 + i by omega]
    exact this
theorem firstLong_no : ∀ (l : List (List UInt8)) (k : Nat), (∀ j, j < l.length → longB (l.getD j []) = false) → firstLong k l = -1
  | [], _, _ => rfl
  | a :: l, k, h => by
    have h1 : longB a = false := h 0 (by simp)
    rw [firstLong, h1]
    exact firstLong_no l (k + 1) fun j hj => h (j + 1) (by simpa using hj)
theorem firstLong_any : ∀ (l : List (List UInt8)) (k : Nat), decide (firstLong k l ≥ 0) = l.any longB
  | [], _ => by rfl
  | a :: l, k => by
    rw [firstLong, List.any_cons]
    cases h : longB a with
    | true => simp
    | false => simpa using firstLong_any l (k + 1)
set_option maxRecDepth 20000 in
theorem indexFunc_c {n : Nat}  (hn : 2 ≤ n) (v : Val) (hv : v.ok) (hK : big ≤ K)  (h : Heap) : (fns (Cg K) n).call 110 [v.namesA, .fn (.func 83) [] []] h none = some (.val (.int .i64 (firstLong 0 v.names)) h none) := by
  obtain ⟨m, rfl⟩ : ∃ m, n = m + 1 := ⟨n - 1, by omega⟩
  have hlt1 := ok_names hv
  have hlen1 : v.names.length ≤ 9223372036854775807 := by unfold big at hlt1; omega
  have hlK1 : v.names.length < (Cg K).loops := by rw [loops_eq]; omega
  have hlong : ∀ (s : List UInt8) (h : Heap), (fns (Cg K) m).call 83 [.str s] h none = some (.val (.bool (longB s)) h none) := fun s h => long_c (by omega) s h
  refine pureq (C := Cg K) (F := fns (Cg K) m) (fn := Tryz.f110) (c := bodyOf Tryz.f110) (by kernel_rfl) (by kernel_rfl) (by kernel_rfl) (noL (namesD _) (noL (by kernel_rfl) rfl)) (by kernel_rfl) (by kernel_rfl) (by kernel_rfl) ?_ h
  refine W.seq ?_
  refine W.region ?_
  refine WO.fin (by kernel_rfl) ?_
  refine W.seq ?_
  refine W.seq ?_
  refine W.region ?_
  refine WO.adv 1 (by kernel_rfl) ?_
  refine WO.opc (fun h => names_len (K := K) (h := h) (v := v)) (by kernel_rfl) ?_
  refine WO.fin (by kernel_rfl) ?_
  refine W.block ?_
  refine W.loopc (len := v.names.length) (fun i t => (S 19 [some (v.namesA), some (.fn (.func 83) [] []), none, none, (t.g 4), (t.g 5), some (v.namesA), some (.int .i64 ((v.names.length : Nat) : Int)), some (.int .i64 ((i : Nat) : Int)), (t.g 9), (t.g 10), (t.g 11), (t.g 12), (t.g 13), (t.g 14), (t.g 15), (t.g 16), (t.g 17), (t.g 18)] (hpL []))) (fun i t => (∀ j, j < i → longB (v.names.getD j []) = false)) hlK1 ?_ ?_ ?_
  · exact Told.k (by kernel_rfl)
  · intro j hj; omega
  · intro i1 t1 hi1 hI1
    refine W.seq ?_
    refine W.region ?_
    refine WO.fin (by kernel_rfl) ?_
    refine W.seq ?_
    refine W.cond (decide (((i1 : Nat) : Int) < ((v.names.length : Nat) : Int))) (by kernel_rfl) (fun hb2 => ?_) (fun hb2 => ?_)
    · refine W.sub 9 hb2 (by kernel_rfl) ?_
      refine W.skip ?_
      refine W.seq ?_
      refine W.block ?_
      refine W.seq ?_
      refine W.region ?_
      refine WO.fin (by kernel_rfl) ?_
      refine W.seq ?_
      refine W.region ?_
      refine WO.adv 3 (by kernel_rfl) ?_
      refine WO.opc (fun h => names_at (K := K) (h := h) (v := v) (lt_of_dec hb2)) (by kernel_rfl) ?_
      refine WO.opc (fun h => name_get (K := K) (h := h) (v := v) (lt_of_dec hb2)) (by kernel_rfl) ?_
      refine WO.callp (by kernel_rfl) (hlong (v.names.getD i1 []) _) ?_
      refine WO.nil ?_
      refine W.cond (longB (v.names.getD i1 [])) (by kernel_rfl) (fun hb3 => ?_) (fun hb3 => ?_)
      · refine W.sub 16 hb3 (by kernel_rfl) ?_
        refine W.seq ?_
        refine W.region ?_
        refine WO.fin (by kernel_rfl) ?_
        refine W.ret ?_
        exact RetQ.k (v' := .int .i64 ((i1 : Nat) : Int)) (by rw [firstLong_at v.names 0 i1 (lt_of_dec hb2) hI1 hb3, Nat.zero_add]) (by kernel_rfl) (by kernel_rfl)
      · refine W.sub 16 hb3 (by kernel_rfl) ?_
        refine W.skip ?_
        refine W.region ?_
        refine WO.fin (by kernel_rfl) ?_
        have hlt : i1 < v.names.length := ((lt_of_dec hb2))
        refine ⟨hlt, ?_, ?_⟩
        · intro j hj; rcases Nat.lt_succ_iff_lt_or_eq.1 hj with h | rfl <;> first | exact hI1 j h | exact hb3 | simpa using hb3
        · refine Told.put 8 (wrapA hlt hlen1) (by kernel_rfl) ?_
          exact Told.k (by kernel_rfl)
    · refine W.sub 9 hb2 (by kernel_rfl) ?_
      refine W.exit ?_
      refine blockQ ?_
      refine W.seq ?_
      refine W.region ?_
      refine WO.fin (by kernel_rfl) ?_
      refine W.ret ?_
      exact RetQ.k (v' := .int .i64 (-1)) (by rw [firstLong_no v.names 0 (fun j hj => hI1 j (by have := end_eq hi1 hb2; omega))]) (by kernel_rfl) (by kernel_rfl)

set_option maxRecDepth 20000 in
theorem containsFunc_c {n : Nat}  (hn : 3 ≤ n) (v : Val) (hv : v.ok) (hK : big ≤ K)  (h : Heap) : (fns (Cg K) n).call 84 [v.namesA, .fn (.func 83) [] []] h none = some (.val (.bool (v.names.any longB)) h none) := by
  obtain ⟨m, rfl⟩ : ∃ m, n = m + 1 := ⟨n - 1, by omega⟩
  refine pureq (C := Cg K) (F := fns (Cg K) m) (fn := Tryz.f84) (c := bodyOf Tryz.f84) (by kernel_rfl) (by kernel_rfl) (by kernel_rfl) (noL (namesD _) (noL (by kernel_rfl) rfl)) (by kernel_rfl) (by kernel_rfl) (by kernel_rfl) ?_ h
  refine W.seq ?_
  refine W.region ?_
  refine WO.fin (by kernel_rfl) ?_
  refine W.seq ?_
  refine W.region ?_
  refine WO.adv 2 (by kernel_rfl) ?_
  refine WO.callp (by kernel_rfl) (indexFunc_c (n := m) (by omega) v hv hK _) ?_
  refine WO.fin (by kernel_rfl) ?_
  refine W.ret ?_
  exact RetQ.k (v' := .bool (decide ((firstLong 0 v.names) ≥ 0))) (by rw [firstLong_any]) (by kernel_rfl) (by kernel_rfl)

end
end Go.Abs
namespace Go.Abs
noncomputable section
open Go Go.Proofs
variable {K : Nat}
def largeB (l : Bool) (lv c : Int) (v : Val) : Bool := l || ((lv == 0) || (decide (c > 120) || (longB v.s || (decide (((v.names.length : Nat) : Int) > 40) || v.names.any longB))))
def oddB (o : Bool) (v : Val) : Bool := o || (!(isNum v.n) || (!(isNum v.e) || !(isNum v.kind)))
def meas1 (v : Val) (lv : Int) (s : Int × Bool × Bool) : Int × Bool × Bool := (wrapF .i64 (s.1 + 1), largeB s.2.1 lv (wrapF .i64 (s.1 + 1)) v, oddB s.2.2 v)
mutual
def measV : Val → Int → Int × Bool × Bool → Int × Bool × Bool
  | .mk k n e t nn names ni items, lv, s => measL items (wrapF .i64 (lv - 1)) (meas1 (.mk k n e t nn names ni items) lv s)
def measL : List Val → Int → Int × Bool × Bool → Int × Bool × Bool
  | [], _, s => s
  | v :: l, d, s => bif s.2.1 then s else measL l d (measV v d s)
end
theorem measV_eq (v : Val) (lv : Int) (s : Int × Bool × Bool) : measV v lv s = measL v.items (wrapF .i64 (lv - 1)) (meas1 v lv s) := by cases v; rw [measV]; rfl
theorem measL_stop (d : Int) (s : Int × Bool × Bool) (h : s.2.1 = true) : ∀ l, measL l d s = s
  | [] => by rw [measL]
  | v :: l => by rw [measL, h]; rfl
theorem measL_append (d : Int) : ∀ (l k : List Val) (s : Int × Bool × Bool), measL (l ++ k) d s = measL k d (measL l d s)
  | [], k, s => by rw [measL]; rfl
  | v :: l, k, s => by
    rw [List.cons_append, measL, measL]
    cases h : s.2.1 with
    | true => simp only [cond_true]; rw [measL_stop d s h]
    | false => simp only [cond_false]; exact measL_append d l k _
def measT (v : Val) (lv : Int) (s : Int × Bool × Bool) (i : Nat) : Int × Bool × Bool := measL (v.items.take i) (wrapF .i64 (lv - 1)) s
theorem measT_zero (v : Val) (lv : Int) (s : Int × Bool × Bool) : measT v lv s 0 = s := by unfold measT; rw [List.take_zero, measL]
theorem measT_succ (v : Val) (lv : Int) (s : Int × Bool × Bool) (i : Nat) (hi : i < v.items.length) (h : (measT v lv s i).2.1 = false) : measT v lv s (i + 1) = measV (v.items.getD i default) (wrapF .i64 (lv - 1)) (measT v lv s i) := by
  unfold measT at h ⊢
  rw [List.take_add_one, List.getElem?_eq_getElem hi, Option.toList_some, measL_append, measL, h]
  simp only [cond_false]
  rw [measL, List.getD_eq_getElem?_getD, List.getElem?_eq_getElem hi]; rfl
theorem measV_T (v : Val) (lv : Int) (s : Int × Bool × Bool) (i : Nat) (hi : i = v.items.length) : measV v lv s = measT v lv (meas1 v lv s) i := by subst hi; rw [measV_eq]; unfold measT; rw [List.take_length]
theorem measV_stop (v : Val) (lv : Int) (s : Int × Bool × Bool) (i : Nat) (h : (measT v lv (meas1 v lv s) i).2.1 = true) : measV v lv s = measT v lv (meas1 v lv s) i := by
  rw [measV_eq]
  unfold measT at h ⊢
  conv => lhs; rw [← List.take_append_drop i v.items]
  rw [measL_append, measL_stop _ _ h]
set_option maxRecDepth 20000 in
theorem measure_c1 {n : Nat}  (hn : 4 ≤ n) (v : Val) (lv a : Int) (b o : Bool) (hv : v.ok) (hK : big ≤ K) (hrec0 : ∀ m, m + 1 = n → ∀ i, i < v.items.length → ∀ (a : Int) (b c : Bool) {j g ver : Nat} {h : Heap}, h.get j = some (bk g 118 true ver [.int .i64 a, .bool b, .bool c]) → (fns (Cg K) m).call 59 [.ptrO j 0, .agg (v.items.getD i default).six, .int .i64 (wrapF .i64 (lv - 1))] h none = some (.val (.tup []) (h.set j (bk g 118 true (Nat.succ ver) [.int .i64 (measV (v.items.getD i default) (wrapF .i64 (lv - 1)) (a, b, c)).1, .bool (measV (v.items.getD i default) (wrapF .i64 (lv - 1)) (a, b, c)).2.1, .bool (measV (v.items.getD i default) (wrapF .i64 (lv - 1)) (a, b, c)).2.2])) none)) {i g ver : Nat} {h : Heap} (hg : h.get i = some (bk g 118 true ver [.int .i64 a, .bool b, .bool o])) :
    (fns (Cg K) n).call 59 ((.ptrO i 0) :: (.agg v.six) :: (.int .i64 lv) :: []) h none = some (.val (.tup []) (h.set i (bk g 118 true (Nat.succ ver) [.int .i64 (measV v lv (a, b, o)).1, .bool (measV v lv (a, b, o)).2.1, .bool (measV v lv (a, b, o)).2.2])) none) := by
  obtain ⟨m, rfl⟩ : ∃ m, n = m + 1 := ⟨n - 1, by omega⟩
  have hrec := hrec0 m rfl
  clear hrec0
  have hlt := ok_items hv
  have hlen : v.items.length ≤ 9223372036854775807 := by unfold big at hlt; omega
  have hlK : v.items.length < (Cg K).loops := by rw [loops_eq]; omega
  have hlong : ∀ (s : List UInt8) (h : Heap), (fns (Cg K) m).call 83 [.str s] h none = some (.val (.bool (longB s)) h none) := fun s h => long_c (by omega) s h
  have hcont : ∀ (h : Heap), (fns (Cg K) m).call 84 [v.namesA, .fn (.func 83) [] []] h none = some (.val (.bool (v.names.any longB)) h none) := fun h => containsFunc_c (by omega) v hv hK h
  have hfits : ∀ (a : Int) (h : Heap), (fns (Cg K) m).call 58 [.int .i64 a] h none = some (.val (.bool (isNum a)) h none) := fun a h => fits_c (by omega) a h
  refine ownq (y := (.ptrO 0 0)) (C := Cg K) (F := fns (Cg K) m) (fn := Tryz.f59) (c := bodyOf Tryz.f59) (by kernel_rfl) (by kernel_rfl) (by kernel_rfl) hg (by kernel_rfl) (by kernel_rfl) (by kernel_rfl) (noL (aggSix _) (noL (by kernel_rfl) rfl)) (by kernel_rfl) (by kernel_rfl) (by kernel_rfl) ?_
  refine W.seq ?_
  refine W.region ?_
  refine WO.fin (by kernel_rfl) ?_
  refine W.seq ?_
  refine W.region ?_
  refine WO.fin (by kernel_rfl) ?_
  refine W.seq ?_
  refine W.region ?_
  refine WO.fin (by kernel_rfl) ?_
  refine W.seqj (fun t => (S 94 ((some (.ptrO 0 0)) :: (some (.agg v.six)) :: (some (.int .i64 lv)) :: none :: (some (.ptrO 1 0)) :: none :: (some (.fn (.func 83) [] [])) :: none :: none :: (some (.ptrO 0 0)) :: (some (.ptrO 0 0)) :: (some (.ptrO 0 0)) :: (some (.int .i64 a)) :: (some (.int .i64 (wrapF .i64 (a + 1)))) :: (some (.ptrO 0 0)) :: (some (.ptrO 0 0)) :: (t.g 16) :: (t.g 17) :: (t.g 18) :: (t.g 19) :: (t.g 20) :: (t.g 21) :: (t.g 22) :: (t.g 23) :: (t.g 24) :: (t.g 25) :: (t.g 26) :: (t.g 27) :: (t.g 28) :: (t.g 29) :: (t.g 30) :: (t.g 31) :: (t.g 32) :: (t.g 33) :: (t.g 34) :: (t.g 35) :: (t.g 36) :: (t.g 37) :: (t.g 38) :: (t.g 39) :: (t.g 40) :: (t.g 41) :: (t.g 42) :: (t.g 43) :: (t.g 44) :: (t.g 45) :: (t.g 46) :: (t.g 47) :: (t.g 48) :: (t.g 49) :: (t.g 50) :: (t.g 51) :: none :: none :: none :: none :: none :: none :: none :: none :: none :: none :: none :: none :: none :: none :: none :: none :: none :: none :: none :: none :: none :: none :: none :: none :: none :: none :: none :: none :: none :: none :: none :: none :: none :: none :: none :: none :: none :: none :: none :: none :: none :: none :: []) (hpL [bk 0 118 true (t.vr 0) [.int .i64 (wrapF .i64 (a + 1)), .bool (largeB b lv (wrapF .i64 (a + 1)) v), .bool o], bk 1 35 true 0 v.six]))) ?_ (fun t1 => ?_)
  · refine W.region ?_
    refine WO.adv 6 (by kernel_rfl) ?_
    refine splitB b (fun hb2 => ?_) (fun hb2 => ?_)
    · refine WO.sub 20 hb2 (by kernel_rfl) ?_
      refine WO.sub 21 hb2 (by kernel_rfl) ?_
      refine WO.subc 0 1 hb2 (by kernel_rfl) ?_
      refine WO.fin (by kernel_rfl) ?_
      refine Told.putc 0 1 (v := .bool true) (v' := .bool (largeB b lv (wrapF .i64 (a + 1)) v)) (congrArg _ (Eq.symm (by unfold largeB; simp [hb2]))) (by kernel_rfl) ?_
      exact Told.k (by kernel_rfl)
    · refine WO.sub 20 hb2 (by kernel_rfl) ?_
      refine WO.sub 21 hb2 (by kernel_rfl) ?_
      refine WO.subc 0 1 hb2 (by kernel_rfl) ?_
      refine WO.adv 4 (by kernel_rfl) ?_
      refine splitB (lv == 0) (fun hb3 => ?_) (fun hb3 => ?_)
      · refine WO.sub 23 hb3 (by kernel_rfl) ?_
        refine WO.sub 24 hb3 (by kernel_rfl) ?_
        refine WO.sub 25 hb3 (by kernel_rfl) ?_
        refine WO.fin (by kernel_rfl) ?_
        refine Told.putc 0 1 (v := .bool true) (v' := .bool (largeB b lv (wrapF .i64 (a + 1)) v)) (congrArg _ (Eq.symm (by unfold largeB; simp [hb2, hb3]))) (by kernel_rfl) ?_
        exact Told.k (by kernel_rfl)
      · refine WO.sub 23 hb3 (by kernel_rfl) ?_
        refine WO.sub 24 hb3 (by kernel_rfl) ?_
        refine WO.sub 25 hb3 (by kernel_rfl) ?_
        refine WO.adv 7 (by kernel_rfl) ?_
        refine splitB (decide ((wrapF .i64 (a + 1)) > 120)) (fun hb4 => ?_) (fun hb4 => ?_)
        · refine WO.sub 30 hb4 (by kernel_rfl) ?_
          refine WO.sub 31 hb4 (by kernel_rfl) ?_
          refine WO.sub 32 hb4 (by kernel_rfl) ?_
          refine WO.fin (by kernel_rfl) ?_
          refine Told.putc 0 1 (v := .bool true) (v' := .bool (largeB b lv (wrapF .i64 (a + 1)) v)) (congrArg _ (Eq.symm (by unfold largeB; simp [hb2, hb3, hb4]))) (by kernel_rfl) ?_
          exact Told.k (by kernel_rfl)
        · refine WO.sub 30 hb4 (by kernel_rfl) ?_
          refine WO.sub 31 hb4 (by kernel_rfl) ?_
          refine WO.sub 32 hb4 (by kernel_rfl) ?_
          refine WO.adv 3 (by kernel_rfl) ?_
          refine WO.callp (by kernel_rfl) (hlong v.s _) ?_
          refine WO.adv 2 (by kernel_rfl) ?_
          refine splitB (longB v.s) (fun hb5 => ?_) (fun hb5 => ?_)
          · refine WO.sub 36 hb5 (by kernel_rfl) ?_
            refine WO.sub 37 hb5 (by kernel_rfl) ?_
            refine WO.sub 38 hb5 (by kernel_rfl) ?_
            refine WO.fin (by kernel_rfl) ?_
            refine Told.putc 0 1 (v := .bool true) (v' := .bool (largeB b lv (wrapF .i64 (a + 1)) v)) (congrArg _ (Eq.symm (by unfold largeB; simp [hb2, hb3, hb4, hb5]))) (by kernel_rfl) ?_
            exact Told.k (by kernel_rfl)
          · refine WO.sub 36 hb5 (by kernel_rfl) ?_
            refine WO.sub 37 hb5 (by kernel_rfl) ?_
            refine WO.sub 38 hb5 (by kernel_rfl) ?_
            refine WO.adv 2 (by kernel_rfl) ?_
            refine WO.opc (fun h => names_len (K := K) (h := h) (v := v)) (by kernel_rfl) ?_
            refine WO.adv 3 (by kernel_rfl) ?_
            refine splitB (decide (((v.names.length : Nat) : Int) > 40)) (fun hb6 => ?_) (fun hb6 => ?_)
            · refine WO.sub 42 hb6 (by kernel_rfl) ?_
              refine WO.sub 43 hb6 (by kernel_rfl) ?_
              refine WO.sub 44 hb6 (by kernel_rfl) ?_
              refine WO.fin (by kernel_rfl) ?_
              refine Told.putc 0 1 (v := .bool true) (v' := .bool (largeB b lv (wrapF .i64 (a + 1)) v)) (congrArg _ (Eq.symm (by unfold largeB; simp [hb2, hb3, hb4, hb5, hb6]))) (by kernel_rfl) ?_
              exact Told.k (by kernel_rfl)
            · refine WO.sub 42 hb6 (by kernel_rfl) ?_
              refine WO.sub 43 hb6 (by kernel_rfl) ?_
              refine WO.sub 44 hb6 (by kernel_rfl) ?_
              refine WO.adv 3 (by kernel_rfl) ?_
              refine WO.callp (by kernel_rfl) (hcont _) ?_
              refine WO.fin (by kernel_rfl) ?_
              refine Told.putc 0 1 (v := .bool (v.names.any longB)) (v' := .bool (largeB b lv (wrapF .i64 (a + 1)) v)) (congrArg _ (Eq.symm (by unfold largeB; simp [hb2, hb3, hb4, hb5, hb6]))) (by kernel_rfl) ?_
              exact Told.k (by kernel_rfl)
  · refine W.seqj (fun t => (S 94 ((some (.ptrO 0 0)) :: (some (.agg v.six)) :: (some (.int .i64 lv)) :: none :: (some (.ptrO 1 0)) :: none :: (some (.fn (.func 83) [] [])) :: none :: none :: (some (.ptrO 0 0)) :: (some (.ptrO 0 0)) :: (some (.ptrO 0 0)) :: (some (.int .i64 a)) :: (some (.int .i64 (wrapF .i64 (a + 1)))) :: (some (.ptrO 0 0)) :: (some (.ptrO 0 0)) :: (t.g 16) :: (t.g 17) :: (t.g 18) :: (t.g 19) :: (t.g 20) :: (t.g 21) :: (t.g 22) :: (t.g 23) :: (t.g 24) :: (t.g 25) :: (t.g 26) :: (t.g 27) :: (t.g 28) :: (t.g 29) :: (t.g 30) :: (t.g 31) :: (t.g 32) :: (t.g 33) :: (t.g 34) :: (t.g 35) :: (t.g 36) :: (t.g 37) :: (t.g 38) :: (t.g 39) :: (t.g 40) :: (t.g 41) :: (t.g 42) :: (t.g 43) :: (t.g 44) :: (t.g 45) :: (t.g 46) :: (t.g 47) :: (t.g 48) :: (t.g 49) :: (t.g 50) :: (t.g 51) :: (t.g 52) :: (t.g 53) :: (t.g 54) :: (t.g 55) :: (t.g 56) :: (t.g 57) :: (t.g 58) :: (t.g 59) :: (t.g 60) :: (t.g 61) :: (t.g 62) :: (t.g 63) :: (t.g 64) :: (t.g 65) :: (t.g 66) :: (t.g 67) :: (t.g 68) :: (t.g 69) :: (t.g 70) :: (t.g 71) :: (t.g 72) :: (t.g 73) :: (t.g 74) :: (t.g 75) :: (t.g 76) :: none :: none :: none :: none :: none :: none :: none :: none :: none :: none :: none :: none :: none :: none :: none :: none :: none :: []) (hpL [bk 0 118 true (t.vr 0) [.int .i64 (wrapF .i64 (a + 1)), .bool (largeB b lv (wrapF .i64 (a + 1)) v), .bool (oddB o v)], bk 1 35 true 0 v.six]))) ?_ (fun t7 => ?_)
    · refine W.region ?_
      refine WO.adv 6 (by kernel_rfl) ?_
      refine splitB o (fun hb8 => ?_) (fun hb8 => ?_)
      · refine WO.sub 56 hb8 (by kernel_rfl) ?_
        refine WO.sub 57 hb8 (by kernel_rfl) ?_
        refine WO.subc 0 2 hb8 (by kernel_rfl) ?_
        refine WO.fin (by kernel_rfl) ?_
        refine Told.putc 0 2 (v := .bool true) (v' := .bool (oddB o v)) (congrArg _ (Eq.symm (by unfold oddB; simp [hb8]))) (by kernel_rfl) ?_
        exact Told.k (by kernel_rfl)
      · refine WO.sub 56 hb8 (by kernel_rfl) ?_
        refine WO.sub 57 hb8 (by kernel_rfl) ?_
        refine WO.subc 0 2 hb8 (by kernel_rfl) ?_
        refine WO.adv 2 (by kernel_rfl) ?_
        refine WO.callp (by kernel_rfl) (hfits v.n _) ?_
        refine WO.adv 3 (by kernel_rfl) ?_
        refine splitB (!(isNum v.n)) (fun hb9 => ?_) (fun hb9 => ?_)
        · refine WO.sub 61 hb9 (by kernel_rfl) ?_
          refine WO.sub 62 hb9 (by kernel_rfl) ?_
          refine WO.sub 63 hb9 (by kernel_rfl) ?_
          refine WO.fin (by kernel_rfl) ?_
          refine Told.putc 0 2 (v := .bool true) (v' := .bool (oddB o v)) (congrArg _ (Eq.symm (by simp only [Bool.not_eq_true', Bool.not_eq_false'] at hb9; unfold oddB; simp [hb8, hb9]))) (by kernel_rfl) ?_
          exact Told.k (by kernel_rfl)
        · refine WO.sub 61 hb9 (by kernel_rfl) ?_
          refine WO.sub 62 hb9 (by kernel_rfl) ?_
          refine WO.sub 63 hb9 (by kernel_rfl) ?_
          refine WO.adv 2 (by kernel_rfl) ?_
          refine WO.callp (by kernel_rfl) (hfits v.e _) ?_
          refine WO.adv 3 (by kernel_rfl) ?_
          refine splitB (!(isNum v.e)) (fun hb10 => ?_) (fun hb10 => ?_)
          · refine WO.sub 67 hb10 (by kernel_rfl) ?_
            refine WO.sub 68 hb10 (by kernel_rfl) ?_
            refine WO.sub 69 hb10 (by kernel_rfl) ?_
            refine WO.fin (by kernel_rfl) ?_
            refine Told.putc 0 2 (v := .bool true) (v' := .bool (oddB o v)) (congrArg _ (Eq.symm (by simp only [Bool.not_eq_true', Bool.not_eq_false'] at hb9 hb10; unfold oddB; simp [hb8, hb9, hb10]))) (by kernel_rfl) ?_
            exact Told.k (by kernel_rfl)
          · refine WO.sub 67 hb10 (by kernel_rfl) ?_
            refine WO.sub 68 hb10 (by kernel_rfl) ?_
            refine WO.sub 69 hb10 (by kernel_rfl) ?_
            refine WO.adv 2 (by kernel_rfl) ?_
            refine WO.callp (by kernel_rfl) (hfits v.kind _) ?_
            refine WO.fin (by kernel_rfl) ?_
            refine Told.putc 0 2 (v := .bool (!(isNum v.kind))) (v' := .bool (oddB o v)) (congrArg _ (Eq.symm (by simp only [Bool.not_eq_true', Bool.not_eq_false'] at hb9 hb10; unfold oddB; simp [hb8, hb9, hb10]))) (by kernel_rfl) ?_
            exact Told.k (by kernel_rfl)
    · refine W.seq ?_
      refine W.region ?_
      refine WO.adv 2 (by kernel_rfl) ?_
      refine WO.opc (fun h => items_len (K := K) (h := h) (v := v)) (by kernel_rfl) ?_
      refine WO.fin (by kernel_rfl) ?_
      refine W.block ?_
      refine W.loopc (len := v.items.length) (fun i t => (S 94 ((some (.ptrO 0 0)) :: (some (.agg v.six)) :: (some (.int .i64 lv)) :: none :: (some (.ptrO 1 0)) :: none :: (some (.fn (.func 83) [] [])) :: none :: (t.g 8) :: (some (.ptrO 0 0)) :: (some (.ptrO 0 0)) :: (some (.ptrO 0 0)) :: (some (.int .i64 a)) :: (some (.int .i64 (wrapF .i64 (a + 1)))) :: (some (.ptrO 0 0)) :: (some (.ptrO 0 0)) :: (t.g 16) :: (t.g 17) :: (t.g 18) :: (t.g 19) :: (t.g 20) :: (t.g 21) :: (t.g 22) :: (t.g 23) :: (t.g 24) :: (t.g 25) :: (t.g 26) :: (t.g 27) :: (t.g 28) :: (t.g 29) :: (t.g 30) :: (t.g 31) :: (t.g 32) :: (t.g 33) :: (t.g 34) :: (t.g 35) :: (t.g 36) :: (t.g 37) :: (t.g 38) :: (t.g 39) :: (t.g 40) :: (t.g 41) :: (t.g 42) :: (t.g 43) :: (t.g 44) :: (t.g 45) :: (t.g 46) :: (t.g 47) :: (t.g 48) :: (t.g 49) :: (t.g 50) :: (t.g 51) :: (t.g 52) :: (t.g 53) :: (t.g 54) :: (t.g 55) :: (t.g 56) :: (t.g 57) :: (t.g 58) :: (t.g 59) :: (t.g 60) :: (t.g 61) :: (t.g 62) :: (t.g 63) :: (t.g 64) :: (t.g 65) :: (t.g 66) :: (t.g 67) :: (t.g 68) :: (t.g 69) :: (t.g 70) :: (t.g 71) :: (t.g 72) :: (t.g 73) :: (t.g 74) :: (t.g 75) :: (t.g 76) :: (some (.ptrO 1 5)) :: (some (v.itemsA)) :: (some (.int .i64 ((v.items.length : Nat) : Int))) :: (some (.int .i64 ((i : Nat) : Int))) :: (t.g 81) :: (t.g 82) :: (t.g 83) :: (t.g 84) :: (t.g 85) :: (t.g 86) :: (t.g 87) :: (t.g 88) :: (t.g 89) :: (t.g 90) :: (t.g 91) :: (t.g 92) :: (t.g 93) :: []) t.h)) (fun i t => (True) ∧ (t.h.get 0 = some (bk 0 118 true (t.vr 0) [.int .i64 ((measT v lv (meas1 v lv (a, b, o)) i).1), .bool ((measT v lv (meas1 v lv (a, b, o)) i).2.1), .bool ((measT v lv (meas1 v lv (a, b, o)) i).2.2)])) ∧ (t.h.get 1 = some (bk 1 35 true (t.vr 1) v.six)) ∧ (2 ≤ t.h.next)) hlK ?_ ?_ ?_
      · exact Told.k (by kernel_rfl)
      · refine ⟨?_, hv_fact (h := (hpL [bk 0 118 true (t7.vr 0) [.int .i64 (wrapF .i64 (a + 1)), .bool (largeB b lv (wrapF .i64 (a + 1)) v), .bool (oddB o v)], bk 1 35 true 0 v.six])) (ver := (t7.vr 0)) (cs := [.int .i64 (wrapF .i64 (a + 1)), .bool (largeB b lv (wrapF .i64 (a + 1)) v), .bool (oddB o v)]) (by kernel_rfl) (by kernel_rfl) (by rw [measT_zero]; rfl), hv_fact (h := (hpL [bk 0 118 true (t7.vr 0) [.int .i64 (wrapF .i64 (a + 1)), .bool (largeB b lv (wrapF .i64 (a + 1)) v), .bool (oddB o v)], bk 1 35 true 0 v.six])) (ver := 0) (cs := v.six) (by kernel_rfl) (by kernel_rfl) (by rfl), hv_next (h := (hpL [bk 0 118 true (t7.vr 0) [.int .i64 (wrapF .i64 (a + 1)), .bool (largeB b lv (wrapF .i64 (a + 1)) v), .bool (oddB o v)], bk 1 35 true 0 v.six])) (by kernel_rfl) (by exact Nat.le_of_ble_eq_true (by kernel_rfl))⟩
        trivial
      · rintro i11 t11 hi11 ⟨hI11, hg0_i11, hg1_i11, hnx_i11⟩
        refine W.seq ?_
        refine W.region ?_
        refine WO.fin (by kernel_rfl) ?_
        refine W.seq ?_
        refine W.cond (decide (((i11 : Nat) : Int) < ((v.items.length : Nat) : Int))) (by kernel_rfl) (fun hb12 => ?_) (fun hb12 => ?_)
        · refine W.sub 81 hb12 (by kernel_rfl) ?_
          refine W.skip ?_
          refine W.seq ?_
          refine W.block ?_
          refine W.seq ?_
          refine W.region ?_
          refine WO.opc (fun h => items_at (K := K) (h := h) (v := v) (lt_of_dec hb12)) (by kernel_rfl) ?_
          refine WO.opc (fun h => item_six (K := K) (h := h) (v := v) (lt_of_dec hb12)) (by kernel_rfl) ?_
          refine WO.opk (y := some (.ptrO t11.h.next 0, (t11.h.new 35 true [.int .i64 0, .int .i64 0, .int .i64 0, .str [], .nils, .nils]))) rfl (by kernel_rfl) ?_
          refine WO.opk (y := opStore (Cg K) (t11.h.new 35 true [.int .i64 0, .int .i64 0, .int .i64 0, .str [], .nils, .nils]) 35 (.ptrO t11.h.next 0) (.agg ((v.items.getD i11 default).six))) (x := .tup []) (h' := ((t11.h.new 35 true [.int .i64 0, .int .i64 0, .int .i64 0, .str [], .nils, .nils]).set t11.h.next (bk t11.h.next 35 true 1 ((v.items.getD i11 default).six)))) (store_k gnew (by kernel_rfl) (by kernel_rfl)) (by kernel_rfl) ?_
          refine WO.nil ?_
          refine W.seq ?_
          refine W.seq ?_
          refine W.region ?_
          refine WO.adv 3 (by kernel_rfl) ?_
          refine WO.opk (y := keep ((t11.h.new 35 true [.int .i64 0, .int .i64 0, .int .i64 0, .str [], .nils, .nils]).set t11.h.next (bk t11.h.next 35 true 1 ((v.items.getD i11 default).six))) (opLoad (Cg K) ((t11.h.new 35 true [.int .i64 0, .int .i64 0, .int .i64 0, .str [], .nils, .nils]).set t11.h.next (bk t11.h.next 35 true 1 ((v.items.getD i11 default).six))) 4 (.ptrO 0 1))) (x := .bool ((measT v lv (meas1 v lv (a, b, o)) i11).2.1)) (h' := ((t11.h.new 35 true [.int .i64 0, .int .i64 0, .int .i64 0, .str [], .nils, .nils]).set t11.h.next (bk t11.h.next 35 true 1 ((v.items.getD i11 default).six)))) (load_k (gso (by omega) (gnewo (by omega) hg0_i11)) (by kernel_rfl)) (by kernel_rfl) ?_
          refine WO.nil ?_
          refine W.cond ((measT v lv (meas1 v lv (a, b, o)) i11).2.1) (by kernel_rfl) (fun hb13 => ?_) (fun hb13 => ?_)
          · refine W.sub 87 hb13 (by kernel_rfl) ?_
            refine W.ret ?_
            exact RetO.kh (v' := .tup []) (cs' := [.int .i64 ((measT v lv (meas1 v lv (a, b, o)) i11).1), .bool ((measT v lv (meas1 v lv (a, b, o)) i11).2.1), .bool ((measT v lv (meas1 v lv (a, b, o)) i11).2.2)]) (ver := (t11.vr 0)) (h' := ((t11.h.new 35 true [.int .i64 0, .int .i64 0, .int .i64 0, .str [], .nils, .nils]).set t11.h.next (bk t11.h.next 35 true 1 ((v.items.getD i11 default).six)))) (by kernel_rfl) (by rfl) (by rw [measV_stop v lv (a, b, o) i11 hb13]) (by kernel_rfl) (by kernel_rfl) (gso (by omega) (gnewo (by omega) hg0_i11))
          · refine W.sub 87 hb13 (by kernel_rfl) ?_
            refine W.skip ?_
            refine W.region ?_
            refine WO.adv 1 (by kernel_rfl) ?_
            refine WO.opk (y := keep ((t11.h.new 35 true [.int .i64 0, .int .i64 0, .int .i64 0, .str [], .nils, .nils]).set t11.h.next (bk t11.h.next 35 true 1 ((v.items.getD i11 default).six))) (opLoad (Cg K) ((t11.h.new 35 true [.int .i64 0, .int .i64 0, .int .i64 0, .str [], .nils, .nils]).set t11.h.next (bk t11.h.next 35 true 1 ((v.items.getD i11 default).six))) 35 (.ptrO t11.h.next 0))) (x := .agg ((v.items.getD i11 default).six)) (h' := ((t11.h.new 35 true [.int .i64 0, .int .i64 0, .int .i64 0, .str [], .nils, .nils]).set t11.h.next (bk t11.h.next 35 true 1 ((v.items.getD i11 default).six)))) (load_k gss (by kernel_rfl)) (by kernel_rfl) ?_
            refine WO.adv 2 (by kernel_rfl) ?_
            refine WO.callh (by kernel_rfl) (by kernel_rfl) (hrec i11 (lt_of_dec hb12) ((measT v lv (meas1 v lv (a, b, o)) i11).1) ((measT v lv (meas1 v lv (a, b, o)) i11).2.1) ((measT v lv (meas1 v lv (a, b, o)) i11).2.2) (j := 0) (g := 0) (ver := (t11.vr 0)) (h := ((t11.h.new 35 true [.int .i64 0, .int .i64 0, .int .i64 0, .str [], .nils, .nils]).set t11.h.next (bk t11.h.next 35 true 1 ((v.items.getD i11 default).six)))) (gso (by omega) (gnewo (by omega) hg0_i11))) ?_
            refine WO.nil ?_
            refine W.region ?_
            refine WO.fin (by kernel_rfl) ?_
            have hlt : i11 < v.items.length := ((lt_of_dec hb12))
            refine ⟨hlt, ⟨?_, hv_fact (h := (((t11.h.new 35 true [.int .i64 0, .int .i64 0, .int .i64 0, .str [], .nils, .nils]).set t11.h.next (bk t11.h.next 35 true 1 ((v.items.getD i11 default).six))).set 0 (bk 0 118 true (Nat.succ (t11.vr 0)) [.int .i64 ((measV (v.items.getD i11 default) (wrapF .i64 (lv - 1)) ((measT v lv (meas1 v lv (a, b, o)) i11).1, ((measT v lv (meas1 v lv (a, b, o)) i11).2.1), ((measT v lv (meas1 v lv (a, b, o)) i11).2.2))).1), .bool ((measV (v.items.getD i11 default) (wrapF .i64 (lv - 1)) ((measT v lv (meas1 v lv (a, b, o)) i11).1, ((measT v lv (meas1 v lv (a, b, o)) i11).2.1), ((measT v lv (meas1 v lv (a, b, o)) i11).2.2))).2.1), .bool ((measV (v.items.getD i11 default) (wrapF .i64 (lv - 1)) ((measT v lv (meas1 v lv (a, b, o)) i11).1, ((measT v lv (meas1 v lv (a, b, o)) i11).2.1), ((measT v lv (meas1 v lv (a, b, o)) i11).2.2))).2.2)]))) (ver := (Nat.succ (t11.vr 0))) (cs := [.int .i64 ((measV (v.items.getD i11 default) (wrapF .i64 (lv - 1)) ((measT v lv (meas1 v lv (a, b, o)) i11).1, ((measT v lv (meas1 v lv (a, b, o)) i11).2.1), ((measT v lv (meas1 v lv (a, b, o)) i11).2.2))).1), .bool ((measV (v.items.getD i11 default) (wrapF .i64 (lv - 1)) ((measT v lv (meas1 v lv (a, b, o)) i11).1, ((measT v lv (meas1 v lv (a, b, o)) i11).2.1), ((measT v lv (meas1 v lv (a, b, o)) i11).2.2))).2.1), .bool ((measV (v.items.getD i11 default) (wrapF .i64 (lv - 1)) ((measT v lv (meas1 v lv (a, b, o)) i11).1, ((measT v lv (meas1 v lv (a, b, o)) i11).2.1), ((measT v lv (meas1 v lv (a, b, o)) i11).2.2))).2.2)]) (by kernel_rfl) gss (by rw [measT_succ v lv (meas1 v lv (a, b, o)) i11 hlt hb13]), hv_fact (h := (((t11.h.new 35 true [.int .i64 0, .int .i64 0, .int .i64 0, .str [], .nils, .nils]).set t11.h.next (bk t11.h.next 35 true 1 ((v.items.getD i11 default).six))).set 0 (bk 0 118 true (Nat.succ (t11.vr 0)) [.int .i64 ((measV (v.items.getD i11 default) (wrapF .i64 (lv - 1)) ((measT v lv (meas1 v lv (a, b, o)) i11).1, ((measT v lv (meas1 v lv (a, b, o)) i11).2.1), ((measT v lv (meas1 v lv (a, b, o)) i11).2.2))).1), .bool ((measV (v.items.getD i11 default) (wrapF .i64 (lv - 1)) ((measT v lv (meas1 v lv (a, b, o)) i11).1, ((measT v lv (meas1 v lv (a, b, o)) i11).2.1), ((measT v lv (meas1 v lv (a, b, o)) i11).2.2))).2.1), .bool ((measV (v.items.getD i11 default) (wrapF .i64 (lv - 1)) ((measT v lv (meas1 v lv (a, b, o)) i11).1, ((measT v lv (meas1 v lv (a, b, o)) i11).2.1), ((measT v lv (meas1 v lv (a, b, o)) i11).2.2))).2.2)]))) (ver := (t11.vr 1)) (cs := v.six) (by kernel_rfl) (gso (by omega) (gso (by omega) (gnewo (by omega) hg1_i11))) (by rfl), hv_next (h := (((t11.h.new 35 true [.int .i64 0, .int .i64 0, .int .i64 0, .str [], .nils, .nils]).set t11.h.next (bk t11.h.next 35 true 1 ((v.items.getD i11 default).six))).set 0 (bk 0 118 true (Nat.succ (t11.vr 0)) [.int .i64 ((measV (v.items.getD i11 default) (wrapF .i64 (lv - 1)) ((measT v lv (meas1 v lv (a, b, o)) i11).1, ((measT v lv (meas1 v lv (a, b, o)) i11).2.1), ((measT v lv (meas1 v lv (a, b, o)) i11).2.2))).1), .bool ((measV (v.items.getD i11 default) (wrapF .i64 (lv - 1)) ((measT v lv (meas1 v lv (a, b, o)) i11).1, ((measT v lv (meas1 v lv (a, b, o)) i11).2.1), ((measT v lv (meas1 v lv (a, b, o)) i11).2.2))).2.1), .bool ((measV (v.items.getD i11 default) (wrapF .i64 (lv - 1)) ((measT v lv (meas1 v lv (a, b, o)) i11).1, ((measT v lv (meas1 v lv (a, b, o)) i11).2.1), ((measT v lv (meas1 v lv (a, b, o)) i11).2.2))).2.2)]))) (by kernel_rfl) (by first | omega | (simp only [nnew, nset]; omega))⟩, ?_⟩
            · trivial
            · refine Told.put 80 (wrapA hlt hlen) (by kernel_rfl) ?_
              exact Told.k (by kernel_rfl)
        · refine W.sub 81 hb12 (by kernel_rfl) ?_
          refine W.exit ?_
          refine blockQ ?_
          exact RetO.khn (v' := .tup []) (cs' := [.int .i64 ((measT v lv (meas1 v lv (a, b, o)) i11).1), .bool ((measT v lv (meas1 v lv (a, b, o)) i11).2.1), .bool ((measT v lv (meas1 v lv (a, b, o)) i11).2.2)]) (ver := (t11.vr 0)) (h' := t11.h) (by kernel_rfl) (by rfl) (by rw [measV_T v lv (a, b, o) i11 (end_eq hi11 hb12)]) (by kernel_rfl) (by kernel_rfl) hg0_i11

theorem measure_c (hK : big ≤ K) : ∀ (d : Nat) (v : Val), v.dep ≤ d → v.ok → ∀ n, d + 5 ≤ n → ∀ (lv a : Int) (b o : Bool) {i g ver : Nat} {h : Heap}, h.get i = some (bk g 118 true ver [.int .i64 a, .bool b, .bool o]) →
    (fns (Cg K) n).call 59 [.ptrO i 0, .agg v.six, .int .i64 lv] h none = some (.val (.tup []) (h.set i (bk g 118 true (Nat.succ ver) [.int .i64 (measV v lv (a, b, o)).1, .bool (measV v lv (a, b, o)).2.1, .bool (measV v lv (a, b, o)).2.2])) none) := by
  intro d
  induction d with
  | zero => intro v hd; cases v; rw [Val.dep] at hd; omega
  | succ d ih =>
    intro v hd hv n hn lv a b o i g ver h hg
    refine measure_c1 (by omega) v lv a b o hv hK (fun m hm i hi a b c j g ver h hg => ?_) hg
    exact ih _ (by have := dep_item v hi; omega) (ok_item hv hi) m (by omega) _ a b c hg
end
end Go.Abs
namespace Go.Abs
noncomputable section
open Go Go.Proofs
theorem measV_mk (k n e : Int) (t : List UInt8) (nn : Bool) (names : List (List UInt8)) (ni : Bool) (items : List Val) (lv : Int) (s : Int × Bool × Bool) :
    measV (.mk k n e t nn names ni items) lv s = measL items (wrapF .i64 (lv - 1)) (meas1 (.mk k n e t nn names ni items) lv s) := by rw [measV]
theorem inR64_near (x : Int) (h1 : -1000 ≤ x) (h2 : x ≤ 1000) : inR64 x = true := by
  cases x with
  | ofNat m => exact Nat.ble_eq_true_of_le (by have : (m : Int) ≤ 1000 := h2; omega)
  | negSucc m => exact Nat.ble_eq_true_of_le (by omega)
theorem wrap_near (x : Int) (h1 : -1000 ≤ x) (h2 : x ≤ 1000) : wrapF .i64 x = x := by
  unfold wrapF; simp only [inR64_near x h1 h2, cond_true]

/-- what the measure says of a value, told by the sizer and the two looks -/
def MeasOk (m : Int × Bool × Bool) (z : Int × Bool) (bad : Bool) (o rg : Bool) : Prop :=
  m.2.1 = (z.2 || bad) ∧ (m.2.1 = false → m.1 = 120 - z.1 ∧ 0 ≤ m.1 ∧ m.1 ≤ 120 ∧ m.2.2 = (o || !rg))
theorem longB_fun : longB = fun s => decide (((s.length : Nat) : Int) > 200) := by
  funext s; unfold longB; rw [lenN_eq]
def bigN (v : Val) : Bool := decide (((v.names.length : Nat) : Int) > 40)
theorem valueErrI_long (v : Val) : valueErrI v = (bif longB v.s || bigN v then 2 else bif v.names.any longB then 2 else valueErrL v.items) := by
  rw [valueErrI_eq, longB_fun]; rfl
theorem meas1_eq (v : Val) (lv c : Int) (o : Bool) : meas1 v lv (c, false, o) = (wrapF .i64 (c + 1), (false || ((lv == 0) || (decide (wrapF .i64 (c + 1) > 120) || (longB v.s || (bigN v || v.names.any longB))))), (o || (!(isNum v.n) || (!(isNum v.e) || !(isNum v.kind))))) := rfl

mutual
theorem meas_ok : ∀ (v : Val) (lv c : Int) (o : Bool), 0 ≤ lv → lv ≤ 8 → 0 ≤ c → c ≤ 120 → MeasOk (measV v lv (c, false, o)) (sizerV v lv (120 - c, false)) (valueErrI v != 0) o (inRangeB v)
  | .mk k n e t nn names ni items, lv, c, o, h1, h2, h3, h4 => by
    have ew : wrapF .i64 (c + 1) = c + 1 := wrap_near _ (by omega) (by omega)
    have el : wrapF .i64 (lv - 1) = lv - 1 := wrap_near _ (by omega) (by omega)
    have ez : wrapF .i64 (120 - c - 1) = 120 - (c + 1) := by rw [wrap_near _ (by omega) (by omega)]; omega
    rw [measV_mk, sizerV_eq, valueErrI_long, inRangeB_eq, meas1_eq, ew, el]
    have hz : meetO (120 - c) false lv = (decide (c + 1 > 120) || (lv == 0)) := by
      unfold meetO; rw [ez, Bool.false_or]
      congr 1
      · exact decide_eq_decide.2 (by omega)
      · rw [Bool.eq_iff_iff]; simp; omega
    simp only [hz, ez]
    have hi : (Val.mk k n e t nn names ni items).items = items := rfl
    rw [hi]
    have hA : decide (c + 1 > 120) = false → c + 1 ≤ 120 := fun h => by have := of_decide_eq_false h; omega
    have hB : (lv == 0) = false → lv ≠ 0 := fun h => by simpa using h
    generalize longB (Val.s _) = P
    generalize bigN _ = B
    generalize List.any (Val.names _) longB = C
    generalize isNum (Val.n _) = n1
    generalize isNum (Val.e _) = n2
    generalize isNum (Val.kind _) = n3
    generalize decide (c + 1 > 120) = A at hA ⊢
    generalize (lv == 0) = L at hB ⊢
    cases A with
    | true =>
      simp only [Bool.true_or, Bool.or_true, Bool.false_or, cond_true]
      rw [measL_stop _ _ rfl]
      exact ⟨rfl, fun h => by cases h⟩
    | false =>
    cases L with
    | true =>
      simp only [Bool.true_or, Bool.or_true, Bool.false_or, cond_true]
      rw [measL_stop _ _ rfl]
      exact ⟨rfl, fun h => by cases h⟩
    | false =>
    have hc := hA rfl
    have hl := hB rfl
    cases P with
    | true =>
      simp only [Bool.true_or, Bool.or_true, Bool.false_or, cond_true, cond_false]
      rw [measL_stop _ _ rfl]
      exact ⟨by simp, fun h => by cases h⟩
    | false =>
    cases B with
    | true =>
      simp only [Bool.true_or, Bool.or_true, Bool.false_or, cond_true, cond_false]
      rw [measL_stop _ _ rfl]
      exact ⟨by simp, fun h => by cases h⟩
    | false =>
    cases C with
    | true =>
      simp only [Bool.true_or, Bool.or_true, Bool.false_or, cond_true, cond_false]
      rw [measL_stop _ _ rfl]
      exact ⟨by simp, fun h => by cases h⟩
    | false =>
    simp only [Bool.false_or, cond_false]
    have := measL_ok items (lv - 1) (c + 1) (o || (!n1 || (!n2 || !n3))) (by omega) (by omega) (by omega) hc
    refine ⟨this.1, fun h => ?_⟩
    obtain ⟨a, b, d, f⟩ := this.2 h
    refine ⟨a, b, d, ?_⟩
    rw [f]
    cases o <;> cases n1 <;> cases n2 <;> cases n3 <;> cases inRangeL items <;> rfl
theorem measL_ok : ∀ (l : List Val) (lv c : Int) (o : Bool), 0 ≤ lv → lv ≤ 8 → 0 ≤ c → c ≤ 120 → MeasOk (measL l lv (c, false, o)) (sizerL l lv (120 - c, false)) (valueErrL l != 0) o (inRangeL l)
  | [], lv, c, o, h1, h2, h3, h4 => by
    rw [measL, sizerL, valueErrL, inRangeL]
    exact ⟨rfl, fun _ => ⟨by show c = 120 - (120 - c); omega, h3, h4, by simp⟩⟩
  | v :: l, lv, c, o, h1, h2, h3, h4 => by
    have hv := meas_ok v lv c o h1 h2 h3 h4
    rw [measL, sizerL, valueErrL, inRangeL]
    simp only [cond_false]
    generalize measV v lv (c, false, o) = m at hv ⊢
    generalize sizerV v lv (120 - c, false) = z at hv ⊢
    obtain ⟨ma, mb, mo⟩ := m
    obtain ⟨za, zb⟩ := z
    cases mb with
    | true =>
      rw [measL_stop _ _ rfl]
      refine ⟨?_, fun h => by cases h⟩
      have e := hv.1
      simp only at e ⊢
      cases zb with
      | true => rw [sizerL_stop _ _ rfl]; rfl
      | false =>
        rw [Bool.false_or] at e
        rw [← e, cond_true, ← e, Bool.or_true]
    | false =>
      obtain ⟨a, b, d, f⟩ := hv.2 rfl
      have e := hv.1
      simp only at a b d f e
      have ezb : zb = false := by cases zb with | true => cases e | false => rfl
      subst ezb
      have ev : (valueErrI v != 0) = false := by rw [Bool.false_or] at e; exact e.symm
      have eza : za = 120 - ma := by omega
      subst eza
      subst f
      rw [ev, cond_false]
      have := measL_ok l lv ma (o || !inRangeB v) h1 h2 b d
      refine ⟨this.1, fun h => ?_⟩
      obtain ⟨a2, b2, d2, f2⟩ := this.2 h
      refine ⟨a2, b2, d2, ?_⟩
      rw [f2]
      cases o <;> cases inRangeB v <;> cases inRangeL l <;> rfl
end
/-- the error of an event, as the logs find it -/
def evErrM (e : Ev) : Int :=
  bif decide (e.comp < (-1)) || (decide (e.comp ≥ 6) || !(isNum e.other)) then 3 else bif decide (e.kind < 0) || decide (e.kind ≥ 11) then 4 else
  orI (bif decide (((lenN e.text : Nat) : Int) ≤ 200) && (decide (((lenN e.name : Nat) : Int) ≤ 200) && !(measV e.val 8 (0, false, false)).2.1) then 0 else 2) (bif !(measV e.val 8 (0, false, false)).2.2 then 0 else 3)
mutual
theorem valueErr_two : ∀ (v : Val), valueErrI v = 0 ∨ valueErrI v = 2
  | .mk k n e s nn names ni items => by
    rw [valueErrI_long]
    cases longB (Val.s _) || bigN _ with
    | true => exact .inr rfl
    | false =>
    simp only [cond_false]
    cases List.any (Val.names _) longB with
    | true => exact .inr rfl
    | false => exact valueErrL_two items
theorem valueErrL_two : ∀ (l : List Val), valueErrL l = 0 ∨ valueErrL l = 2
  | [] => by rw [valueErrL]; exact .inl rfl
  | v :: l => by
    rw [valueErrL]
    cases valueErrI v != 0 with
    | true => exact valueErr_two v
    | false => exact valueErrL_two l
end
theorem evErrM_eq (e : Ev) : evErrM e = evErr e := by
  unfold evErrM evErr smallB
  have hm := meas_ok e.val 8 0 false (by omega) (by omega) (by omega) (by omega)
  rw [show (120 : Int) - 0 = 120 from rfl] at hm
  have h1 : (decide (e.comp < (-1)) || (decide (e.comp ≥ 6) || !(isNum e.other))) = (!(withinB e.comp (-1) 5) || !(isNum e.other)) := by
    rw [← Bool.or_assoc]; congr 1; unfold withinB; rw [Bool.eq_iff_iff]; simp; omega
  have h2 : (decide (e.kind < 0) || decide (e.kind ≥ 11)) = !(withinB e.kind 0 10) := by
    unfold withinB; rw [Bool.eq_iff_iff]; simp; omega
  have h3 : decide (((lenN e.text : Nat) : Int) ≤ 200) = !decide (((lenN e.text : Nat) : Int) > 200) := by
    rw [Bool.eq_iff_iff]; simp
  have h4 : decide (((lenN e.name : Nat) : Int) ≤ 200) = !decide (((lenN e.name : Nat) : Int) > 200) := by
    rw [Bool.eq_iff_iff]; simp
  rw [h1, h2, h3, h4]
  cases !(withinB e.comp (-1) 5) || !(isNum e.other) with
  | true => rfl
  | false =>
  cases !(withinB e.kind 0 10) with
  | true => rfl
  | false =>
  simp only [cond_false]
  cases decide (((lenN e.text : Nat) : Int) > 200) with
  | true => rfl
  | false =>
  cases decide (((lenN e.name : Nat) : Int) > 200) with
  | true => rfl
  | false =>
  generalize measV e.val 8 (0, false, false) = m at hm ⊢
  generalize sizerV e.val 8 (120, false) = z at hm ⊢
  obtain ⟨ma, mb, mo⟩ := m
  obtain ⟨za, zb⟩ := z
  obtain ⟨e1, e2⟩ := hm
  simp only at e1 e2 ⊢
  rcases valueErr_two e.val with hv | hv <;> rw [hv] at e1 ⊢
  · have e1 : mb = zb := by rw [e1]; cases zb <;> rfl
    subst e1
    cases mb with
    | true => rfl
    | false =>
      obtain ⟨_, _, _, f⟩ := e2 rfl
      subst f
      cases inRangeB e.val <;> rfl
  · have e1 : mb = true := by rw [e1]; cases zb <;> rfl
    subst e1
    cases zb <;> rfl
end
end Go.Abs
