/- A part of the proofs of the laws of logs: see the last text of this claim. -/
import Derived.Test.YtlehhkleemaloaaGreatDoorD1
namespace Go.Abs
noncomputable section
open Go Go.Proofs
variable {K : Nat}
/-! ## Lines that are read -/
/-- the first line with an error, and it; or how many there are, and 0 -/
def fbad (c : List UInt8 → Int) : Nat → List (List UInt8) → Nat × Int
  | k, [] => (k, 0)
  | k, s :: l => bif c s != 0 then (k, c s) else fbad c (k + 1) l
def longR (l : List (List UInt8)) : Bool := decide (((l.length : Nat) : Int) > 60)
def errOf (s : List UInt8) : Int := (cParse s).2
def rdC (l : List (List UInt8)) : Int := bif longR l then 2 else (fbad errOf 0 l).2
def rdN (l : List (List UInt8)) : Int := bif longR l then 0 else (((fbad errOf 0 l).1 : Nat) : Int)
def evOf (s : List UInt8) : Ev := (cParse s).1
def rdE (l : List (List UInt8)) : List Ev := bif rdC l != 0 then [] else l.map evOf
theorem fbad_at (c : List UInt8 → Int) : ∀ (l : List (List UInt8)) (k i : Nat), i < l.length → (∀ j, j < i → (c (l.getD j []) != 0) = false) → (c (l.getD i []) != 0) = true → fbad c k l = (k + i, c (l.getD i []))
  | [], k, i, h, _, _ => by cases h
  | s :: l, k, 0, _, _, h => by
    have h : (c s != 0) = true := h
    rw [fbad, h]; rfl
  | s :: l, k, i + 1, hi, h0, h => by
    have h1 : (c s != 0) = false := h0 0 (by omega)
    rw [fbad, h1, cond_false, fbad_at c l (k + 1) i (by simpa using hi) (fun j hj => h0 (j + 1) (by omega)) h, Nat.add_right_comm]; rfl
theorem fbad_end (c : List UInt8 → Int) : ∀ (l : List (List UInt8)) (k : Nat), (∀ j, j < l.length → (c (l.getD j []) != 0) = false) → fbad c k l = (k + l.length, 0)
  | [], k, _ => rfl
  | s :: l, k, h => by
    have h1 : (c s != 0) = false := h 0 (by simp)
    rw [fbad, h1, cond_false, fbad_end c l (k + 1) (fun j hj => h (j + 1) (by simpa using hj)), List.length_cons]
    congr 1; omega
section
variable {l : List (List UInt8)} {i : Nat}
theorem rd_long (h : longR l = true) : rdC l = 2 ∧ rdN l = 0 ∧ rdE l = [] := by
  have h1 : rdC l = 2 := by unfold rdC; rw [h]; rfl
  exact ⟨h1, by unfold rdN; rw [h]; rfl, by unfold rdE; rw [h1]; rfl⟩
theorem rd_bad (h : longR l = false) (hi : i < l.length) (h0 : ∀ j, j < i → (errOf (l.getD j []) != 0) = false) (h1 : (errOf (l.getD i []) != 0) = true) : rdC l = errOf (l.getD i []) ∧ rdN l = ((i : Nat) : Int) ∧ rdE l = [] := by
  have e := fbad_at errOf l 0 i hi h0 h1
  rw [Nat.zero_add] at e
  have h2 : rdC l = errOf (l.getD i []) := by unfold rdC; rw [h, e]; rfl
  exact ⟨h2, by unfold rdN; rw [h, e]; rfl, by unfold rdE; rw [h2, h1]; rfl⟩
theorem rd_end (h : longR l = false) (h0 : ∀ j, j < l.length → (errOf (l.getD j []) != 0) = false) : rdC l = 0 ∧ rdN l = ((l.length : Nat) : Int) ∧ rdE l = l.map evOf := by
  have e := fbad_end errOf l 0 h0
  rw [Nat.zero_add] at e
  have h2 : rdC l = 0 := by unfold rdC; rw [h, e]; rfl
  exact ⟨h2, by unfold rdN; rw [h, e]; rfl, by unfold rdE; rw [h2]; rfl⟩
theorem rlen (h : longR l = false) : l.length ≤ 60 := by
  have := of_decide_eq_false h
  omega
theorem rtake (h : longR l = false) (i : Nat) : ((l.take i).map evOf).length ≤ 60 := by
  have := rlen h
  rw [List.length_map, List.length_take]; omega
theorem ev_succ (hi : i < l.length) : (l.take (i + 1)).map evOf = (l.take i).map evOf ++ [evOf (l.getD i [])] := by rw [take_at l i [] hi, List.map_append]; rfl
theorem c_of_r (s : List UInt8) : (rParse s).2 = errOf s ∧ (rParse s).1 = evOf s := by rw [← parse_same s]; exact ⟨rfl, rfl⟩
end
theorem parseEvent2_c {n : Nat} (hn : 4020 ≤ n) (s : List UInt8) (hK : big ≤ K) (h : Heap) : (fns (Cg K) n).call 23 [.str s] h none = some (.val (.tup [.agg (evOf s).elv, .int .i64 (errOf s)]) h none) := parseEvent_c hn s hK h
theorem refParse2_c {n : Nat} (hn : 4020 ≤ n) (s : List UInt8) (hK : big ≤ K) (h : Heap) : (fns (Cg K) n).call 24 [.str s] h none = some (.val (.tup [.agg (evOf s).elv, .int .i64 (errOf s)]) h none) := by
  rw [← (c_of_r s).1, ← (c_of_r s).2]
  exact refParse_c hn s hK h
/-! ### a copy of what came in -/
theorem own_texts {nn : Bool} {l : List (List UInt8)} (hl : l.length * 16 ≤ 140737488355328) :
    ∃ v' h', builtinA (Cg K) (hpL [bk 0 9 true 0 []]) .append #[29, 29] [.slO 0 0 1 0 0 true, textsA nn l] = some (v', h') ∧ ∀ k, freezeA h' (k + 2) v' = some (textsA false l) := by
  have h0 : builtinA (Cg K) (hpL [bk 0 9 true 0 []]) .append #[29, 29] [.slO 0 0 1 0 0 true, textsA nn l] = appendA (hpL [bk 0 9 true 0 []]) 9 1 16 (.slO 0 0 1 0 0 true) (textsA nn l) := by kernel_rfl
  rw [h0]
  cases hl0 : l with
  | nil =>
    refine ⟨.slO 0 0 1 0 0 true, hpL [bk 0 9 true 1 []], ?_, fun k => ?_⟩
    · cases nn with
      | true => rfl
      | false => rfl
    · rfl
  | cons a r =>
    rw [← hl0]
    have hn : l.length = r.length + 1 := by rw [hl0]; rfl
    have ht : ∀ b, textsA b l = .slR (l.map .str) 0 l.length l.length false := by intro b; unfold textsA; rw [hn]; rfl
    rw [ht nn, ht false]
    have hm : (l.map AV.str).length = l.length := List.length_map ..
    refine ⟨.slO 1 0 1 l.length l.length false, (hpL [bk 0 9 true 0 []]).new 9 false (l.map .str), ?_, fun k => ?_⟩
    · unfold appendA
      have hx : lenA (.slR (l.map .str) 0 l.length l.length false) = some l.length := rfl
      have hf : firstA (hpL [bk 0 9 true 0 []]) 1 l.length (.slR (l.map .str) 0 l.length l.length false) = some (l.map .str) := by
        show partN (l.map .str) 0 (Nat.mul l.length 1) = _
        unfold partN
        simp only [lenN_eq, takeN_eq, dropN_eq, hm]
        rw [show Nat.ble (Nat.add 0 (Nat.mul l.length 1)) l.length = true from Nat.ble_eq_true_of_le (by show 0 + l.length * 1 ≤ _; omega)]
        simp only [cond_true, List.drop_zero, Option.some.injEq]
        exact List.take_of_length_le (by rw [hm]; show _ ≤ l.length * 1; omega)
      rw [hx]
      simp only [hf]
      unfold appendO
      rw [show Nat.beq 1 1 = true from rfl]
      simp only [Bool.not_true, cond_false]
      rw [show Nat.ble (Nat.add 0 l.length) 0 = false from by
        cases hh : Nat.ble (Nat.add 0 l.length) 0 with
        | false => rfl
        | true => have : 0 + l.length ≤ 0 := Nat.le_of_ble_eq_true hh; omega]
      simp only [cond_false]
      rw [show roomOk (Nat.add 0 l.length) 16 = true from by
        unfold roomOk
        rw [Bool.and_eq_true]
        exact ⟨Nat.ble_eq_true_of_le (by show (0 + l.length) * 16 ≤ _; omega), Nat.ble_eq_true_of_le (by show 0 + l.length ≤ _; omega)⟩]
      simp only [Bool.not_true, cond_false]
      rw [show cellsAt (hpL [bk 0 9 true 0 []]) 0 0 (Nat.mul 0 1) = some [] from by kernel_rfl]
      simp only [cond_true, List.nil_append]
      show some (AV.slO _ 0 1 (Nat.add 0 l.length) (Nat.add 0 l.length) false, _) = _
      rw [show Nat.add 0 l.length = l.length from Nat.zero_add _]
      rfl
    · rw [freezeA_succ]
      simp only
      have hg : ((hpL [bk 0 9 true 0 []]).new 9 false (l.map .str)).get 1 = some (newBlk 1 9 false (l.map .str)) := by kernel_rfl
      have hc : cellsAt ((hpL [bk 0 9 true 0 []]).new 9 false (l.map .str)) 1 0 (Nat.mul l.length 1) = some (l.map .str) := by
        unfold cellsAt
        rw [hg]
        show (bif true then partN (l.map .str) 0 (l.length * 1) else none) = _
        unfold partN
        simp only [cond_true, lenN_eq, takeN_eq, dropN_eq, hm]
        rw [show Nat.ble (Nat.add 0 (l.length * 1)) l.length = true from Nat.ble_eq_true_of_le (by show 0 + l.length * 1 ≤ _; omega)]
        simp only [cond_true, List.drop_zero, Option.some.injEq]
        exact List.take_of_length_le (by rw [hm]; omega)
      rw [hc]
      simp only
      rw [freezeL_same (l.map AV.str) fun c hcm => by obtain ⟨e, _, rfl⟩ := List.mem_map.1 hcm; rfl]
/-! ### events of one's own, looked at -/
theorem slE_at {id n i : Nat} (hi : i < n) (h : Heap) : keep h (opIndexAddr (Cg K) 22 (.slO id 0 11 n n false) (.int .i64 ((i : Nat) : Int))) = some (.ptrO id (Nat.add 0 (Nat.mul i 11)), h) := by
  have e : keep h (opIndexAddr (Cg K) 22 (.slO id 0 11 n n false) (.int .i64 ((i : Nat) : Int))) = keep h (bif Nat.ble (Nat.succ i) n && knownT (Cg K) 37 then some (.ptrO id (Nat.add 0 (Nat.mul i (sizeT (Cg K) 37)))) else none) := by kernel_rfl
  rw [e, show Nat.ble (Nat.succ i) n = true from Nat.ble_eq_true_of_le hi, k37, z37]; rfl
theorem slE_get {h : Heap} {id i : Nat} {b : Blk} {l : List Ev} (hb : h.get id = some b) (hc : b.cells = l.flatMap Ev.cells) (hk : b.kind = .row) (hi : i < l.length) : keep h (opLoad (Cg K) h 37 (.ptrO id (Nat.add 0 (Nat.mul i 11)))) = some (.agg (l.getD i default).elv, h) := by
  have e : opLoad (Cg K) h 37 (.ptrO id (Nat.add 0 (Nat.mul i 11))) = (match cellsAt h id (Nat.add 0 (Nat.mul i 11)) 11 with | some cs => mkT (Cg K) 37 cs | none => none) := by kernel_rfl
  have hp := part_of ev_len l i (l.getD i default) (by rw [List.getD_eq_getElem?_getD, List.getElem?_eq_getElem hi]; rfl)
  rw [ev_cells] at hp
  have hq : cellsAt h id (Nat.add 0 (Nat.mul i 11)) 11 = some (l.getD i default).elv := by
    unfold cellsAt
    rw [hb]
    simp only [hk]
    rw [hc]
    exact hp
  rw [e, hq]
  have : ∀ e : Ev, mkT (Cg K) 37 e.elv = some (.agg e.elv) := fun e => by kernel_rfl
  simp only [this]; rfl
/-- over the caller's memory, though the function is one that is run over a heap of its own where it can be -/
theorem plainq2 {C : Cfg} {F : Fns} {f : FuncId} {fn : Func} {c : Code} {args : List AV} {v : AV} (ho : C.own1 f = false) (hn : noOwnL (noOwn deep) args = false) (hs : C.spec f args = none) (hf : C.P.funcs[f]? = some fn) (hb : fn.body = some c) (hl : Nat.ble (lenN args) fn.ntmps = true) {h h' : Heap}
    (w : W C F c { n := fn.ntmps, tm := tmOf 0 args (fullT 12 fn.ntmps), h, ds := [], pn := none } (RetN C F fn v h')) : (stepF C F).call f args h none = some (.val v h' none) := by
  have := body_of hf hb hl rfl w
  show callA C F f args h none = _
  unfold callA
  simp only [hs]
  unfold callA0
  rw [ho, hn]
  simpa using this
theorem own_no {a : AV} {id n : Nat} : noOwnL (noOwn deep) [a, .slO id 0 11 n n false] = false := by
  show (noOwn deep a && (false && true)) = false
  rw [Bool.false_and, Bool.and_false]
theorem textsD (b : Bool) (l : List (List UInt8)) : noOwn deep (textsA b l) = true := sliceA_own 63 _ _ _
theorem freeze_three {h : Heap} {v w : AV} {a b : Int} (hv : freezeA h 63 v = some w) : freezeA h deep (res1 [v, .int .i64 a, .int .i64 b]) = some (.tup [w, .int .i64 a, .int .i64 b]) := by
  show freezeA h (63 + 1) (.tup [v, .int .i64 a, .int .i64 b]) = _
  rw [freezeA_succ]
  simp only [freezeL_cons, hv]
  rfl
end
end Go.Abs
namespace Go.Abs
noncomputable section
open Go Go.Proofs
/-! ## There: a line that is read is what was written -/
theorem num_line {v : Int} (h1 : -9223372036854775808 ≤ v) (h2 : v ≤ 9223372036854775807) {b k : List UInt8} (hb : ∀ c, (b ++ k).head? = some c → isNC c = false) (w : Bool) : cNum b (Lib.itoa v ++ (b ++ k), w) = (v, (k, w)) := by
  have e1 : (Lib.itoa v ++ (b ++ k)).takeWhile isNC = Lib.itoa v := cspan_num hb
  have e2 := numOf_itoa h1 h2
  unfold cNum
  simp only [e1, atoiV_num e2, e2, Option.isSome_some, Bool.not_true, Bool.or_false, List.drop_left]
  unfold cSign
  simp only
  rw [List.isPrefixOf_iff_prefix.2 (List.prefix_append b k)]
  simp only [cond_true, List.drop_left]
theorem sign_line {b k : List UInt8} (w : Bool) : cSign b (b ++ k, w) = (k, w) := by
  unfold cSign
  simp only
  rw [List.isPrefixOf_iff_prefix.2 (List.prefix_append b k)]
  simp only [cond_true, List.drop_left]
theorem text_line {s k : List UInt8} (h : s.length ≤ 9223372036854775807) : cText (txt s ++ k, false) = (s, (k, false)) := by
  have e : txt s ++ k = Lib.itoa ((s.length : Nat) : Int) ++ ([58] ++ (s ++ k)) := by unfold txt; rw [lenN_eq]; simp only [List.append_assoc]
  have hn : cNum [58] (txt s ++ k, false) = (((s.length : Nat) : Int), (s ++ k, false)) := by
    rw [e]; exact num_line (by omega) (by omega) (fun c hc => by cases hc; rfl) false
  unfold cText
  rw [hn]
  simp only [List.length_append, Int.toNat_natCast, List.take_left, List.drop_left]
  rw [show decide (((s.length : Nat) : Int) < 0) = false from decide_eq_false (by omega), show decide (((s.length : Nat) : Int) > ((s.length + k.length : Nat) : Int)) = false from decide_eq_false (by omega)]
  rfl
theorem name_line {s k : List UInt8} (h : s.length ≤ 9223372036854775807) : cName ([44] ++ txt s ++ k, false) = (s, (k, false)) := by
  unfold cName
  rw [List.append_assoc, sign_line, text_line h]
theorem names_line {k : List UInt8} : ∀ (l : List (List UInt8)) (f i : Nat) (u : List (List UInt8)), (∀ x ∈ l, x.length ≤ 9223372036854775807) → l.length ≤ f → cLoop cName ((i + l.length : Nat) : Int) f ((i : Nat) : Int) (u, (namesText l ++ k, false)) = (u ++ l, (k, false))
  | [], f, i, u, _, _ => by rw [cLoop_done f _ (by simp), List.append_nil]; rfl
  | s :: l, 0, i, u, _, hf => by simp at hf
  | s :: l, f + 1, i, u, h, hf => by
    have e : namesText (s :: l) ++ k = [44] ++ txt s ++ (namesText l ++ k) := by rw [namesText]; simp only [List.append_assoc]
    rw [e, cLoop_step f _ (by simp only [List.length_cons]; omega) rfl, name_line (h s (List.mem_cons_self ..))]
    have ih := names_line (k := k) l f (i + 1) (u ++ [s]) (fun x hx => h x (List.mem_cons_of_mem _ hx)) (by simp only [List.length_cons] at hf; omega)
    have e2 : ((i + (s :: l).length : Nat) : Int) = ((i + 1 + l.length : Nat) : Int) := by simp only [List.length_cons]; omega
    have e3 : ((i : Nat) : Int) + 1 = ((i + 1 : Nat) : Int) := by omega
    rw [e2, e3]
    simp only
    rw [ih, List.append_assoc]; rfl
mutual
/-- with lists that are nil where they are empty -/
def nv : Val → Val
  | .mk k n e s _ names _ items => .mk k n e s true names true (nvL items)
def nvL : List Val → List Val
  | [] => []
  | v :: l => nv v :: nvL l
end
theorem items_line {d : Nat} {k : List UInt8} : ∀ (l : List Val) (f i : Nat) (u : List Val), (∀ x ∈ l, ∀ r, cVal d (valText x ++ r, false) = (nv x, (r, false))) → l.length ≤ f → cLoop (cVal d) ((i + l.length : Nat) : Int) f ((i : Nat) : Int) (u, (itemsText l ++ k, false)) = (u ++ nvL l, (k, false))
  | [], f, i, u, _, _ => by rw [cLoop_done f _ (by simp), nvL, List.append_nil, itemsText]; rfl
  | s :: l, 0, i, u, _, hf => by simp at hf
  | s :: l, f + 1, i, u, h, hf => by
    have e : itemsText (s :: l) ++ k = valText s ++ (itemsText l ++ k) := by rw [itemsText]; simp only [List.append_assoc]
    rw [e, cLoop_step f _ (by simp only [List.length_cons]; omega) rfl, h s (List.mem_cons_self ..)]
    have ih := items_line (d := d) (k := k) l f (i + 1) (u ++ [nv s]) (fun x hx => h x (List.mem_cons_of_mem _ hx)) (by simp only [List.length_cons] at hf; omega)
    have e2 : ((i + (s :: l).length : Nat) : Int) = ((i + 1 + l.length : Nat) : Int) := by simp only [List.length_cons]; omega
    have e3 : ((i : Nat) : Int) + 1 = ((i + 1 : Nat) : Int) := by omega
    rw [e2, e3]
    simp only
    rw [ih, nvL, List.append_assoc]; rfl
theorem namesText_cnt : ∀ l : List (List UInt8), l.length ≤ (namesText l).length
  | [] => Nat.le_refl _
  | s :: l => by
    have := namesText_cnt l
    rw [namesText]
    simp only [List.length_append, List.length_cons, List.length_nil]; omega
theorem valText_pos (v : Val) : 1 ≤ (valText v).length := by rw [valText_eq]; simp only [List.length_append, List.length_cons, List.length_nil]; omega
theorem itemsText_cnt : ∀ l : List Val, l.length ≤ (itemsText l).length
  | [] => Nat.zero_le _
  | v :: l => by
    have h1 := itemsText_cnt l
    have h2 := valText_pos v
    rw [itemsText]
    simp only [List.length_append, List.length_cons]; omega
theorem names_head (l : List (List UInt8)) (r : List UInt8) : ∀ c, ([] ++ (namesText l ++ ([44] ++ r))).head? = some c → isNC c = false := by
  intro c hc
  cases l with
  | nil => cases hc; rfl
  | cons a l => rw [namesText] at hc; cases hc; rfl
theorem items_head (l : List Val) (r : List UInt8) : ∀ c, ([] ++ (itemsText l ++ ([59] ++ r))).head? = some c → isNC c = false := by
  intro c hc
  cases l with
  | nil => rw [itemsText] at hc; cases hc; rfl
  | cons a l =>
    rw [itemsText, valText_eq] at hc
    unfold midT headT at hc
    cases hc; rfl
theorem num_64 {n : Int} (h : isNum n = true) : -9223372036854775808 ≤ n ∧ n ≤ 9223372036854775807 := by
  unfold isNum withinB at h
  rw [Bool.and_eq_true] at h
  have h1 := of_decide_eq_true h.1; have h2 := of_decide_eq_true h.2
  exact ⟨by omega, by omega⟩
theorem val_line : ∀ (d : Nat) (v : Val), v.dep ≤ d → v.sm → v.ok → ∀ k, cVal d (valText v ++ k, false) = (nv v, (k, false))
  | 0, v, hd, _, _, _ => by cases v; rw [Val.dep] at hd; omega
  | d + 1, .mk kd n e s nn names ni items, hd, hs, ho, k => by
    have hh := sm_head hs
    obtain ⟨h1, h2, h3, h4, h5, h6⟩ := hh
    have hn := ok_names ho
    have hi := ok_items ho
    have h1 := num_64 h1; have h2 := num_64 h2; have h3 := num_64 h3
    have h1 : -9223372036854775808 ≤ kd ∧ kd ≤ 9223372036854775807 := h1
    have h2 : -9223372036854775808 ≤ n ∧ n ≤ 9223372036854775807 := h2
    have h3 : -9223372036854775808 ≤ e ∧ e ≤ 9223372036854775807 := h3
    have h4 : s.length ≤ 200 := h4
    have h5 : names.length ≤ 40 := h5
    have h6 : ∀ x ∈ names, x.length ≤ 200 := h6
    have hi : items.length < 9223372036854775808 := hi
    have ih : ∀ x ∈ items, ∀ r, cVal d (valText x ++ r, false) = (nv x, (r, false)) := by
      intro x hx r
      obtain ⟨j, hj, rfl⟩ := List.getElem_of_mem hx
      have g : items[j] = items.getD j default := by rw [List.getD_eq_getElem?_getD, List.getElem?_eq_getElem hj]; rfl
      rw [g]
      have hd2 := dep_item (.mk kd n e s nn names ni items) (i := j) hj
      have hd2 : (items.getD j default).dep < (Val.mk kd n e s nn names ni items).dep := hd2
      exact val_line d (items.getD j default) (by omega) (sm_item hs hj) (ok_item ho hj) r
    have et : valText (.mk kd n e s nn names ni items) ++ k = [118] ++ (Lib.itoa kd ++ ([44] ++ (Lib.itoa n ++ ([44] ++ (Lib.itoa e ++ ([44] ++ (txt s ++ ([44] ++ (Lib.itoa ((names.length : Nat) : Int) ++ ([] ++ (namesText names ++ ([44] ++ (Lib.itoa ((items.length : Nat) : Int) ++ ([] ++ (itemsText items ++ ([59] ++ k)))))))))))))))) := by
      rw [valText_eq]
      unfold midT headT
      simp only [List.append_assoc, List.nil_append]
      rfl
    generalize hst : (valText (.mk kd n e s nn names ni items) ++ k, false) = st
    have c44 : ∀ r : List UInt8, ∀ c, ([44] ++ r).head? = some c → isNC c = false := fun r c hc => by cases hc; rfl
    have hA : cA st = (kd, (Lib.itoa n ++ ([44] ++ (Lib.itoa e ++ ([44] ++ (txt s ++ ([44] ++ (Lib.itoa ((names.length : Nat) : Int) ++ ([] ++ (namesText names ++ ([44] ++ (Lib.itoa ((items.length : Nat) : Int) ++ ([] ++ (itemsText items ++ ([59] ++ k))))))))))))), false)) := by
      unfold cA
      rw [← hst, et, sign_line, num_line h1.1 h1.2 (c44 _)]
    have hB : cB st = (n, (Lib.itoa e ++ ([44] ++ (txt s ++ ([44] ++ (Lib.itoa ((names.length : Nat) : Int) ++ ([] ++ (namesText names ++ ([44] ++ (Lib.itoa ((items.length : Nat) : Int) ++ ([] ++ (itemsText items ++ ([59] ++ k))))))))))), false)) := by
      unfold cB
      rw [hA]
      exact num_line h2.1 h2.2 (c44 _) false
    have hC : cC st = (e, (txt s ++ ([44] ++ (Lib.itoa ((names.length : Nat) : Int) ++ ([] ++ (namesText names ++ ([44] ++ (Lib.itoa ((items.length : Nat) : Int) ++ ([] ++ (itemsText items ++ ([59] ++ k))))))))), false)) := by
      unfold cC
      rw [hB]
      exact num_line h3.1 h3.2 (c44 _) false
    have hD : cD st = (s, ([44] ++ (Lib.itoa ((names.length : Nat) : Int) ++ ([] ++ (namesText names ++ ([44] ++ (Lib.itoa ((items.length : Nat) : Int) ++ ([] ++ (itemsText items ++ ([59] ++ k)))))))), false)) := by
      unfold cD
      rw [hC]
      exact text_line (by omega)
    have hE : cE st = (((names.length : Nat) : Int), (namesText names ++ ([44] ++ (Lib.itoa ((items.length : Nat) : Int) ++ ([] ++ (itemsText items ++ ([59] ++ k))))), false)) := by
      unfold cE
      rw [hD]
      simp only
      rw [sign_line]
      exact num_line (by omega) (by omega) (names_head names _) false
    have hF : cF st = (names, ([44] ++ (Lib.itoa ((items.length : Nat) : Int) ++ ([] ++ (itemsText items ++ ([59] ++ k)))), false)) := by
      unfold cF
      rw [hE]
      simp only
      have := names_line (k := [44] ++ (Lib.itoa ((items.length : Nat) : Int) ++ ([] ++ (itemsText items ++ ([59] ++ k))))) names ((namesText names ++ ([44] ++ (Lib.itoa ((items.length : Nat) : Int) ++ ([] ++ (itemsText items ++ ([59] ++ k)))))).length + 1) 0 [] (fun x hx => by have := h6 x hx; omega) (by have := namesText_cnt names; rw [List.length_append]; omega)
      rw [Nat.zero_add] at this
      exact this
    have hG : cG st = (((items.length : Nat) : Int), (itemsText items ++ ([59] ++ k), false)) := by
      unfold cG
      rw [hF]
      simp only
      rw [sign_line]
      exact num_line (by omega) (by omega) (items_head items k) false
    have hH : cH (cVal d) st = (nvL items, ([59] ++ k, false)) := by
      unfold cH
      rw [hG]
      simp only
      have := items_line (d := d) (k := [59] ++ k) items ((itemsText items ++ ([59] ++ k)).length + 1) 0 [] ih (by have := itemsText_cnt items; rw [List.length_append]; omega)
      rw [Nat.zero_add] at this
      exact this
    have hI : cI (cVal d) st = (k, false) := by
      unfold cI
      rw [hH]
      exact sign_line false
    refine Prod.ext ?_ ?_
    · rw [cVal_fst, hA, hB, hC, hD, hF, hH, nv]
    · rw [cVal_snd, hI, hE, hG]
      simp only
      rw [show decide (((names.length : Nat) : Int) < 0) = false from decide_eq_false (by omega), show decide (((items.length : Nat) : Int) < 0) = false from decide_eq_false (by omega)]
      rfl
end
end Go.Abs
namespace Go.Abs
noncomputable section
open Go Go.Proofs
mutual
theorem nv_sizer : ∀ (v : Val) (lv : Int) (s : Int × Bool), sizerV (nv v) lv s = sizerV v lv s
  | .mk k n e s nn names ni items, lv, z => by rw [nv, sizerV, sizerV, nvL_sizer items]
theorem nvL_sizer : ∀ (l : List Val) (lv : Int) (s : Int × Bool), sizerL (nvL l) lv s = sizerL l lv s
  | [], lv, s => by rw [nvL]
  | v :: l, lv, s => by rw [nvL, sizerL, sizerL, nv_sizer v, nvL_sizer l]
end
mutual
theorem nv_err : ∀ v : Val, valueErrI (nv v) = valueErrI v
  | .mk k n e s nn names ni items => by rw [nv, valueErrI, valueErrI, nvL_err items]
theorem nvL_err : ∀ l : List Val, valueErrL (nvL l) = valueErrL l
  | [] => by rw [nvL]
  | v :: l => by rw [nvL, valueErrL, valueErrL, nv_err v, nvL_err l]
end
mutual
theorem nv_range : ∀ v : Val, inRangeB (nv v) = inRangeB v
  | .mk k n e s nn names ni items => by rw [nv, inRangeB, inRangeB, nvL_range items]
theorem nvL_range : ∀ l : List Val, inRangeL (nvL l) = inRangeL l
  | [] => by rw [nvL]
  | v :: l => by rw [nvL, inRangeL, inRangeL, nv_range v, nvL_range l]
end
mutual
theorem nv_same : ∀ v : Val, (nv v).same v
  | .mk k n e s nn names ni items => by rw [nv, Val.same]; exact ⟨rfl, rfl, rfl, rfl, rfl, nvL_same items⟩
theorem nvL_same : ∀ l : List Val, sameL (nvL l) l
  | [] => by rw [nvL, sameL]; trivial
  | v :: l => by rw [nvL, sameL]; exact ⟨nv_same v, nvL_same l⟩
end
def nEv (e : Ev) : Ev := ⟨e.comp, e.kind, e.text, e.name, nv e.val, e.other⟩
theorem nEv_err (e : Ev) : evErr (nEv e) = evErr e := by
  have h1 : smallB (nv e.val) 120 = smallB e.val 120 := by unfold smallB; rw [nv_sizer]
  unfold evErr
  show (bif !(withinB e.comp (-1) 5) || !(isNum e.other) then (3 : Int) else bif !(withinB e.kind 0 10) then 4 else
    bif decide (((lenN e.text : Nat) : Int) > 200) || (decide (((lenN e.name : Nat) : Int) > 200) || !(smallB (nv e.val) 120)) then 2 else
    bif valueErrI (nv e.val) != 0 then valueErrI (nv e.val) else bif !(inRangeB (nv e.val)) then 3 else 0) = _
  rw [h1, nv_err, nv_range]
theorem nEv_same (e : Ev) : (nEv e).same e := ⟨rfl, rfl, rfl, rfl, rfl, nv_same _⟩

/-! ## The line of an event is read as it -/
theorem ev_heads {e : Ev} (h : evErr e = 0) : withinB e.comp (-1) 5 = true ∧ isNum e.other = true ∧ withinB e.kind 0 10 = true ∧ e.text.length ≤ 200 ∧ e.name.length ≤ 200 := by
  unfold evErr at h
  cases h1 : !(withinB e.comp (-1) 5) || !(isNum e.other) with
  | true => rw [h1] at h; cases h
  | false =>
  rw [h1] at h
  cases h2 : !(withinB e.kind 0 10) with
  | true => rw [h2] at h; cases h
  | false =>
  rw [h2] at h
  cases h3 : decide (((lenN e.text : Nat) : Int) > 200) || (decide (((lenN e.name : Nat) : Int) > 200) || !(smallB e.val 120)) with
  | true => rw [h3] at h; cases h
  | false =>
  rw [Bool.or_eq_false_iff] at h1 h3
  rw [Bool.or_eq_false_iff] at h3
  have a := of_decide_eq_false h3.1; have b := of_decide_eq_false h3.2.1
  rw [lenN_eq] at a b
  exact ⟨nb_f h1.1, nb_f h1.2, nb_f h2, by omega, by omega⟩
theorem within_64 {n a b : Int} (h : withinB n a b = true) (ha : -9223372036854775808 ≤ a) (hb : b ≤ 9223372036854775807) : -9223372036854775808 ≤ n ∧ n ≤ 9223372036854775807 := by
  unfold withinB at h
  rw [Bool.and_eq_true] at h
  have h1 := of_decide_eq_true h.1; have h2 := of_decide_eq_true h.2
  exact ⟨by omega, by omega⟩
theorem valText_dep : ∀ (d : Nat) (v : Val), v.dep ≤ d → v.dep ≤ (valText v).length
  | 0, v, h => by cases v; rw [Val.dep] at h; omega
  | d + 1, .mk k n e s nn names ni items, h => by
    rw [Val.dep] at h ⊢
    have hp := valText_pos (.mk k n e s nn names ni items)
    rw [valText_eq] at hp ⊢
    have key : ∀ l : List Val, depL l ≤ d → depL l ≤ (itemsText l).length := by
      intro l
      induction l with
      | nil => intro _; rw [depL]; exact Nat.zero_le _
      | cons a l ih =>
        intro hl
        rw [depL] at hl ⊢
        rw [itemsText, List.length_append]
        have h1 := valText_dep d a (Nat.le_trans (Nat.le_max_left _ _) hl)
        have h2 := ih (Nat.le_trans (Nat.le_max_right _ _) hl)
        exact Nat.max_le.2 ⟨by omega, by omega⟩
    have := key items (by omega)
    have hi : (Val.mk k n e s nn names ni items).items = items := rfl
    rw [hi]
    simp only [List.length_append, List.length_cons, List.length_nil]
    omega
theorem ev_line {e : Ev} (h0 : evErr e = 0) (ho : e.val.ok) (hl : longL e = false) : cParse (lineT e) = (nEv e, 0) := by
  obtain ⟨h1, h2, h3, h4, h5⟩ := ev_heads h0
  have h1 := within_64 h1 (by omega) (by omega)
  have h2 := num_64 h2
  have h3 := within_64 h3 (by omega) (by omega)
  have hsm := ev_sm h0
  have hvs : e.val.sm := hsm.val
  have et : lineT e = Lib.itoa e.comp ++ ([32] ++ (Lib.itoa e.kind ++ ([32] ++ (Lib.itoa e.other ++ ([32] ++ (txt e.text ++ ([32] ++ (txt e.name ++ ([32] ++ (valText e.val ++ [])))))))))) := by
    unfold lineT
    simp only [List.append_assoc, List.append_nil]
  have c32 : ∀ r : List UInt8, ∀ c, ([32] ++ r).head? = some c → isNC c = false := fun r c hc => by cases hc; rfl
  generalize hs : lineT e = s
  have hlong : decide (((lenN s : Nat) : Int) > 4000) = false := by rw [← hs]; exact hl
  have hlen := len_ok hlong
  have hA : qA s = (e.comp, (Lib.itoa e.kind ++ ([32] ++ (Lib.itoa e.other ++ ([32] ++ (txt e.text ++ ([32] ++ (txt e.name ++ ([32] ++ (valText e.val ++ [])))))))), false)) := by
    unfold qA
    rw [← hs, et]
    exact num_line h1.1 h1.2 (c32 _) false
  have hB : qB s = (e.kind, (Lib.itoa e.other ++ ([32] ++ (txt e.text ++ ([32] ++ (txt e.name ++ ([32] ++ (valText e.val ++ [])))))), false)) := by
    unfold qB
    rw [hA]
    exact num_line h3.1 h3.2 (c32 _) false
  have hC : qC s = (e.other, (txt e.text ++ ([32] ++ (txt e.name ++ ([32] ++ (valText e.val ++ [])))), false)) := by
    unfold qC
    rw [hB]
    exact num_line h2.1 h2.2 (c32 _) false
  have hD : qD s = (e.text, ([32] ++ (txt e.name ++ ([32] ++ (valText e.val ++ []))), false)) := by
    unfold qD
    rw [hC]
    exact text_line (by omega)
  have hE : qE s = (e.name, ([32] ++ (valText e.val ++ []), false)) := by
    unfold qE
    rw [hD]
    simp only
    rw [sign_line]
    exact text_line (by omega)
  have hF : qF s = (nv e.val, ([], false)) := by
    unfold qF
    rw [hE]
    simp only
    rw [sign_line]
    refine val_line (s.length + 1) e.val ?_ hvs ho []
    have hd := valText_dep _ e.val (Nat.le_refl _)
    have : (valText e.val).length ≤ s.length := by
      rw [← hs]; unfold lineT
      simp only [List.length_append]; omega
    omega
  have hc : cEv s = nEv e := by
    unfold cEv nEv
    rw [hA, hB, hC, hD, hE, hF]
  unfold cParse
  rw [hlong, hF, hc, nEv_err, h0]
  rfl

/-! ## And back: what is read is the line of what was read -/
theorem num_back {b s : List UInt8} {w : Bool} (h : (cNum b (s, w)).2.2 = false) : s = Lib.itoa (cNum b (s, w)).1 ++ (b ++ (cNum b (s, w)).2.1) ∧ w = false := by
  have h0 := h
  unfold cNum cSign at h ⊢
  simp only at h ⊢
  cases hp : b.isPrefixOf (s.drop (s.takeWhile isNC).length) with
  | false => rw [hp] at h; cases h
  | true =>
    rw [hp] at h
    simp only [cond_true] at h ⊢
    rw [Bool.or_eq_false_iff] at h
    refine ⟨?_, h.1⟩
    obtain ⟨t, ht⟩ := List.isPrefixOf_iff_prefix.1 hp
    cases hn : numOf (s.takeWhile isNC) with
    | none => rw [hn] at h; cases h.2
    | some v =>
      have e1 := (numOf_some hn).1
      rw [atoiV_num hn, ← e1, ← ht, List.drop_left, ht]
      have h2 := nE_take s
      unfold nE at h2
      conv => lhs; rw [← List.take_append_drop (s.takeWhile isNC).length s, h2]
theorem sign_back {b s : List UInt8} {w : Bool} (h : (cSign b (s, w)).2 = false) : s = b ++ (cSign b (s, w)).1 ∧ w = false := by
  unfold cSign at h ⊢
  simp only at h ⊢
  cases hp : b.isPrefixOf s with
  | false => rw [hp] at h; cases h
  | true =>
    rw [hp] at h
    simp only [cond_true] at h ⊢
    obtain ⟨t, rfl⟩ := List.isPrefixOf_iff_prefix.1 hp
    rw [List.drop_left]
    exact ⟨rfl, h⟩
theorem text_back {s : List UInt8} {w : Bool} (h : (cText (s, w)).2.2 = false) : s = txt (cText (s, w)).1 ++ (cText (s, w)).2.1 ∧ w = false := by
  generalize hX : cNum [58] (s, w) = X at h
  cases hc : X.2.2 || (decide (X.1 < 0) || decide (X.1 > ((X.2.1.length : Nat) : Int))) with
  | true =>
    have e : cText (s, w) = ([], (X.2.1, true)) := by unfold cText; rw [hX, hc]; rfl
    rw [e] at h; cases h
  | false =>
    have e : cText (s, w) = (X.2.1.take X.1.toNat, (X.2.1.drop X.1.toNat, X.2.2)) := by unfold cText; rw [hX, hc]; rfl
    rw [Bool.or_eq_false_iff, Bool.or_eq_false_iff] at hc
    have h1 := of_decide_eq_false hc.2.1; have h2 := of_decide_eq_false hc.2.2
    have hb := num_back (b := [58]) (s := s) (w := w) (by rw [hX]; exact hc.1)
    rw [hX] at hb
    rw [e]
    refine ⟨?_, hb.2⟩
    have hlen : (((X.2.1.take X.1.toNat).length : Nat) : Int) = X.1 := by rw [List.length_take]; omega
    unfold txt
    rw [lenN_eq, hlen]
    simp only [List.append_assoc]
    rw [List.take_append_drop]
    exact hb.1
theorem name_back {s : List UInt8} {w : Bool} (h : (cName (s, w)).2.2 = false) : s = ([44] ++ txt (cName (s, w)).1) ++ (cName (s, w)).2.1 ∧ w = false := by
  unfold cName at h ⊢
  have h1 := text_back (s := (cSign [44] (s, w)).1) (w := (cSign [44] (s, w)).2) h
  have h2 := sign_back h1.2
  refine ⟨?_, h2.2⟩
  rw [List.append_assoc]
  exact h2.1.trans (congrArg (fun z => [44] ++ z) h1.1)
theorem num_x {b : List UInt8} {x : RS} (h : (cNum b x).2.2 = false) : x.1 = Lib.itoa (cNum b x).1 ++ (b ++ (cNum b x).2.1) ∧ x.2 = false := by obtain ⟨s, w⟩ := x; exact num_back h
theorem sign_x {b : List UInt8} {x : RS} (h : (cSign b x).2 = false) : x.1 = b ++ (cSign b x).1 ∧ x.2 = false := by obtain ⟨s, w⟩ := x; exact sign_back h
theorem text_x {x : RS} (h : (cText x).2.2 = false) : x.1 = txt (cText x).1 ++ (cText x).2.1 ∧ x.2 = false := by obtain ⟨s, w⟩ := x; exact text_back h
theorem name_x {x : RS} (h : (cName x).2.2 = false) : x.1 = ([44] ++ txt (cName x).1) ++ (cName x).2.1 ∧ x.2 = false := by obtain ⟨s, w⟩ := x; exact name_back h
theorem loop_back {α : Type} {B : RS → α × RS} {T : α → List UInt8} (hB : ∀ a : RS, (B a).2.2 = false → a.1 = T (B a).1 ++ (B a).2.1 ∧ a.2 = false) (hp : ∀ a, (B a).2.2 = false → (B a).2.1.length < a.1.length) {n : Int} :
    ∀ (f : Nat) (i : Int) (r : List α × RS), r.2.1.length < f → (cLoop B n f i r).2.2 = false → ∃ l, (cLoop B n f i r).1 = r.1 ++ l ∧ r.2.1 = l.flatMap T ++ (cLoop B n f i r).2.1 ∧ r.2.2 = false ∧ (i ≤ n → n = i + ((l.length : Nat) : Int)) ∧ (n ≤ i → l = [])
  | 0, i, r, hf, _ => by omega
  | f + 1, i, r, hf, h => by
    by_cases hi : i < n
    · cases hw : r.2.2 with
      | true => rw [cLoop_wrong _ _ _ hw, hw] at h; cases h
      | false =>
        rw [cLoop_step f r hi hw] at h ⊢
        cases hw2 : (B r.2).2.2 with
        | true =>
          rw [cLoop_wrong _ _ _ hw2] at h
          rw [hw2] at h; cases h
        | false =>
          have hb := hB r.2 hw2
          have hlt := hp r.2 hw2
          obtain ⟨l, e1, e2, _, e4, e5⟩ := loop_back hB hp f (i + 1) (r.1 ++ [(B r.2).1], (B r.2).2) (by show (B r.2).2.1.length < f; omega) h
          refine ⟨(B r.2).1 :: l, ?_, ?_, rfl, fun _ => ?_, fun h => by omega⟩
          · rw [e1, List.append_assoc]; rfl
          · rw [List.flatMap_cons, List.append_assoc]
            exact hb.1.trans (congrArg (fun z => T (B r.2).1 ++ z) e2)
          · have := e4 (by omega)
            rw [List.length_cons]; omega
    · rw [cLoop_done _ r (by omega)] at h ⊢
      exact ⟨[], (List.append_nil _).symm, rfl, h, fun _ => by simp only [List.length_nil]; omega, fun _ => rfl⟩
theorem names_flat2 : ∀ l : List (List UInt8), l.flatMap (fun s => [44] ++ txt s) = namesText l
  | [] => rfl
  | s :: l => by rw [List.flatMap_cons, names_flat2 l, namesText]
theorem items_flat2 : ∀ l : List Val, l.flatMap valText = itemsText l
  | [] => by rw [itemsText]; rfl
  | v :: l => by rw [List.flatMap_cons, items_flat2 l, itemsText]
theorem val_core {A B C E G : Int × RS} {D : List UInt8 × RS} {F : List (List UInt8) × RS} {H : List Val × RS} {I : RS} {V : RS → Val × RS} {st : RS} (eA : A = cNum [44] (cSign [118] st)) (eB : B = cNum [44] A.2) (eC : C = cNum [44] B.2) (eD : D = cText C.2) (eE : E = cNum [] (cSign [44] D.2))
    (eF : F = cLoop cName E.1 (E.2.1.length + 1) 0 ([], E.2)) (eG : G = cNum [] (cSign [44] F.2)) (eH : H = cLoop V G.1 (G.2.1.length + 1) 0 ([], G.2)) (eI : I = cSign [59] H.2) (hV : ∀ a : RS, (V a).2.2 = false → a.1 = valText (V a).1 ++ (V a).2.1 ∧ a.2 = false)
    (hp : ∀ a, (V a).2.2 = false → (V a).2.1.length < a.1.length) (hI : I.2 = false) (hE0 : 0 ≤ E.1) (hG0 : 0 ≤ G.1) : st.1 = valText (.mk A.1 B.1 C.1 D.1 true F.1 true H.1) ++ I.1 ∧ st.2 = false := by
  have bI := sign_x (b := [59]) (x := H.2) (by rw [← eI]; exact hI)
  rw [← eI] at bI
  obtain ⟨li, i1, i2, i3, i4, _⟩ := loop_back (B := V) (T := valText) (n := G.1) hV hp (G.2.1.length + 1) 0 ([], G.2) (Nat.lt_succ_self _) (by rw [← eH]; exact bI.2)
  rw [← eH] at i1 i2
  have bG := num_x (b := []) (x := cSign [44] F.2) (by rw [← eG]; exact i3)
  rw [← eG] at bG
  have bG2 := sign_x (b := [44]) (x := F.2) bG.2
  obtain ⟨ln, n1, n2, n3, n4, _⟩ := loop_back (B := cName) (T := fun s => [44] ++ txt s) (n := E.1) (fun _ h => name_x h) (fun _ h => name_prog h) (E.2.1.length + 1) 0 ([], E.2) (Nat.lt_succ_self _) (by rw [← eF]; exact bG2.2)
  rw [← eF] at n1 n2
  have bE := num_x (b := []) (x := cSign [44] D.2) (by rw [← eE]; exact n3)
  rw [← eE] at bE
  have bE2 := sign_x (b := [44]) (x := D.2) bE.2
  have bD := text_x (x := C.2) (by rw [← eD]; exact bE2.2)
  rw [← eD] at bD
  have bC := num_x (b := [44]) (x := B.2) (by rw [← eC]; exact bD.2)
  rw [← eC] at bC
  have bB := num_x (b := [44]) (x := A.2) (by rw [← eB]; exact bC.2)
  rw [← eB] at bB
  have bA := num_x (b := [44]) (x := cSign [118] st) (by rw [← eA]; exact bB.2)
  rw [← eA] at bA
  have b0 := sign_x (b := [118]) (x := st) bA.2
  refine ⟨?_, b0.2⟩
  have cE : E.1 = ((ln.length : Nat) : Int) := by have := n4 hE0; omega
  have cG : G.1 = ((li.length : Nat) : Int) := by have := i4 hG0; omega
  have n1 : F.1 = ln := n1
  have i1 : H.1 = li := i1
  have n2 : E.2.1 = namesText ln ++ F.2.1 := by rw [← names_flat2]; exact n2
  have i2 : G.2.1 = itemsText li ++ H.2.1 := by rw [← items_flat2]; exact i2
  rw [valText_eq, n1, i1, b0.1, bA.1, bB.1, bC.1, bD.1, bE2.1, bE.1, n2, bG2.1, bG.1, i2, bI.1, cE, cG]
  unfold midT headT
  simp only [List.append_assoc, List.nil_append, Val.kind, Val.n, Val.e, Val.s, Val.names, Val.items]
theorem val_back (d : Nat) : ∀ a : RS, (cVal d a).2.2 = false → a.1 = valText (cVal d a).1 ++ (cVal d a).2.1 ∧ a.2 = false := by
  induction d with
  | zero => intro a h; rw [cVal] at h; cases h
  | succ d ih =>
    intro st h
    rw [cVal_snd] at h
    simp only at h
    rw [Bool.or_eq_false_iff, Bool.or_eq_false_iff] at h
    have hE0 := of_decide_eq_false h.2.1; have hG0 := of_decide_eq_false h.2.2
    have e2 : (cVal (d + 1) st).2.1 = (cI (cVal d) st).1 := by rw [cVal_snd]
    rw [cVal_fst, e2]
    exact val_core (A := cA st) (B := cB st) (C := cC st) (D := cD st) (E := cE st) (F := cF st) (G := cG st) (H := cH (cVal d) st) (I := cI (cVal d) st) (V := cVal d) rfl rfl rfl rfl rfl rfl rfl rfl rfl ih (fun _ h => cVal_prog h) h.1 (by omega) (by omega)
theorem ev_core {A B C : Int × RS} {D E : List UInt8 × RS} {F : Val × RS} {s : List UInt8} {d : Nat} (eA : A = cNum [32] (s, false)) (eB : B = cNum [32] A.2) (eC : C = cNum [32] B.2) (eD : D = cText C.2) (eE : E = cText (cSign [32] D.2)) (eF : F = cVal d (cSign [32] E.2)) (h1 : F.2.2 = false) (h2 : F.2.1 = []) :
    lineT ⟨A.1, B.1, D.1, E.1, F.1, C.1⟩ = s := by
  have bF := val_back d (cSign [32] E.2) (by rw [← eF]; exact h1)
  rw [← eF] at bF
  have bF2 := sign_x (b := [32]) (x := E.2) bF.2
  have bE := text_x (x := cSign [32] D.2) (by rw [← eE]; exact bF2.2)
  rw [← eE] at bE
  have bE2 := sign_x (b := [32]) (x := D.2) bE.2
  have bD := text_x (x := C.2) (by rw [← eD]; exact bE2.2)
  rw [← eD] at bD
  have bC := num_x (b := [32]) (x := B.2) (by rw [← eC]; exact bD.2)
  rw [← eC] at bC
  have bB := num_x (b := [32]) (x := A.2) (by rw [← eB]; exact bC.2)
  rw [← eB] at bB
  have bA := num_x (b := [32]) (x := (s, false)) (by rw [← eA]; exact bB.2)
  rw [← eA] at bA
  have tA : s = Lib.itoa A.1 ++ ([32] ++ A.2.1) := bA.1
  unfold lineT
  rw [tA, bB.1, bC.1, bD.1, bE2.1, bE.1, bF2.1, bF.1, h2, List.append_nil]
  simp only [List.append_assoc]
theorem ev_back {s : List UInt8} (h : (cParse s).2 = 0) : decide (((lenN s : Nat) : Int) > 4000) = false ∧ evErr (cParse s).1 = 0 ∧ lineT (cParse s).1 = s := by
  unfold cParse at h ⊢
  cases hl : decide (((lenN s : Nat) : Int) > 4000) with
  | true => rw [hl] at h; cases h
  | false =>
  rw [hl] at h
  simp only [cond_false] at h ⊢
  cases hb : (qF s).2.2 || !(decide ((qF s).2.1 = [])) with
  | true => rw [hb] at h; cases h
  | false =>
  rw [hb] at h
  simp only [cond_false] at h ⊢
  cases he : evErr (cEv s) != 0 with
  | true =>
    rw [he] at h
    simp only [cond_true] at h
    rw [h] at he; cases he
  | false =>
    simp only [cond_false]
    have he0 : evErr (cEv s) = 0 := by simpa using he
    rw [Bool.or_eq_false_iff] at hb
    have hend := of_decide_eq_true (nb_f hb.2)
    exact ⟨trivial, he0, ev_core (A := qA s) (B := qB s) (C := qC s) (D := qD s) (E := qE s) (F := qF s) (d := s.length + 1) rfl rfl rfl rfl rfl rfl hb.1 hend⟩
theorem fmt_back {s : List UInt8} (h : (cParse s).2 = 0) : fmtE (cParse s).1 = 0 ∧ fmtS (cParse s).1 = s := by
  obtain ⟨h1, h2, h3⟩ := ev_back h
  have h4 : longL (cParse s).1 = false := by unfold longL; rw [h3]; exact h1
  have e : fmtE (cParse s).1 = 0 := by rw [fmtE_right h2, h4]; rfl
  exact ⟨e, by unfold fmtS; rw [e, h3]; rfl⟩
theorem fmt_there {e : Ev} (ho : e.val.ok) (h : fmtE e = 0) : cParse (fmtS e) = (nEv e, 0) := by
  have h0 : evErr e = 0 := by
    unfold fmtE at h
    cases hb : evErr e != 0 with
    | true => rw [hb] at h; exact h
    | false => simpa using hb
  have hl : longL e = false := by
    cases hb : longL e with
    | false => rfl
    | true => rw [fmtE_right h0, hb] at h; cases h
  have hs : fmtS e = lineT e := by unfold fmtS; rw [h]; rfl
  rw [hs]
  exact ev_line h0 ho hl
end
end Go.Abs
namespace Go.Abs
noncomputable section
open Go Go.Proofs
variable {K : Nat}
set_option maxRecDepth 20000 in
theorem light_c {n : Nat} {d : Nat} (hn : d + 5 ≤ n) (e : Ev) (hd : e.val.dep ≤ d) (hv : e.val.ok) (hK : big ≤ K) {id g ver : Nat}  {h : Heap} (hg : h.get id = some (bk g 37 true ver e.elv)) : (fns (Cg K) n).call 26 [.slO id 0 11 1 1 true] h none = some (.val (.bool (smallB e.val 400)) h none) := by
  obtain ⟨m, rfl⟩ : ∃ m, n = m + 1 := ⟨n - 1, by omega⟩
  refine plainq (C := Cg K) (F := fns (Cg K) m) (fn := Tryz.f26) (c := bodyOf Tryz.f26) (by kernel_rfl) (by kernel_rfl) (by kernel_rfl) (by kernel_rfl) (by kernel_rfl) (by kernel_rfl) ?_
  refine W.seq ?_
  refine W.region ?_
  refine WO.fin (by kernel_rfl) ?_
  refine W.seq ?_
  refine W.seq ?_
  refine W.region ?_
  refine WO.fin (by kernel_rfl) ?_
  refine W.block ?_
  refine W.unroll ?_
  refine WI.step (by rw [loops_eq]; unfold big at hK; omega) ?_
  refine W.seq ?_
  refine W.seq ?_
  refine W.region ?_
  refine WO.fin (by kernel_rfl) ?_
  refine W.cond true (by kernel_rfl) (fun _ => ?_) (fun h => by cases h)
  refine W.skip ?_
  refine W.seq ?_
  refine W.block ?_
  refine W.seq ?_
  refine W.region ?_
  refine WO.adv 4 (by kernel_rfl) ?_
  refine WO.opk (y := keep h (opLoad (Cg K) h 35 (.ptrO id 4))) (x := .agg e.val.six) (h' := h) (load_k hg (by kernel_rfl)) (by kernel_rfl) ?_
  refine WO.callp (by kernel_rfl) (isSmall_c (d := d) (by omega) e.val hd hv hK 400 _) ?_
  refine WO.fin (by kernel_rfl) ?_
  refine W.cond (!(smallB e.val 400)) (by kernel_rfl) (fun hb1 => ?_) (fun hb1 => ?_)
  · refine W.sub 16 hb1 (by kernel_rfl) ?_
    refine W.seq ?_
    refine W.region ?_
    refine WO.fin (by kernel_rfl) ?_
    refine W.ret ?_
    exact RetN.k (v' := .bool false) (h' := h) (by rw [nb_t hb1]) (by rfl) (by kernel_rfl) (by kernel_rfl) (by kernel_rfl)
  · refine W.sub 16 hb1 (by kernel_rfl) ?_
    refine W.skip ?_
    refine W.region ?_
    refine WO.fin (by kernel_rfl) ?_
    refine WI.step (by rw [loops_eq]; unfold big at hK; omega) ?_
    refine W.seq ?_
    refine W.seq ?_
    refine W.region ?_
    refine WO.fin (by kernel_rfl) ?_
    refine W.cond false (by kernel_rfl) (fun h => by cases h) (fun _ => ?_)
    refine W.exit ?_
    refine blockQ ?_
    refine W.seq ?_
    refine W.region ?_
    refine WO.fin (by kernel_rfl) ?_
    refine W.ret ?_
    exact RetN.k (v' := .bool true) (h' := h) (by rw [nb_f hb1]) (by rfl) (by kernel_rfl) (by kernel_rfl) (by kernel_rfl)

theorem back_err {e : Ev} (hv : e.val.ok) (h : fmtE e = 0) : errOf (fmtS e) = 0 := by unfold errOf; rw [fmt_there hv h]
theorem back_same {e : Ev} (hv : e.val.ok) (h : fmtE e = 0) : (evOf (fmtS e)).same e := by unfold evOf; rw [fmt_there hv h]; exact nEv_same e
set_option maxRecDepth 20000 in
theorem logBack_c {n : Nat} {d : Nat} (hn : d + 9000 ≤ n) (e : Ev) (s : List UInt8) (hd : e.val.dep ≤ d) (hv : e.val.ok) (hK : big ≤ K)  (h : Heap) : (fns (Cg K) n).call 6 [.agg e.elv, .str s] h none = some (.val (.bool true) h none) := by
  obtain ⟨m, rfl⟩ : ∃ m, n = m + 1 := ⟨n - 1, by omega⟩
  refine pureq (C := Cg K) (F := fns (Cg K) m) (fn := Tryz.f6) (c := bodyOf Tryz.f6) (by kernel_rfl) (by kernel_rfl) (by kernel_rfl) (noL (aggElv _) (noL (by kernel_rfl) rfl)) (by kernel_rfl) (by kernel_rfl) (by kernel_rfl) ?_ h
  refine W.seq ?_
  refine W.region ?_
  refine WO.fin (by kernel_rfl) ?_
  refine W.seq ?_
  refine W.seq ?_
  refine W.region ?_
  refine WO.callp (by kernel_rfl) (awake_c (by omega) _) ?_
  refine WO.fin (by kernel_rfl) ?_
  refine W.cond false (by kernel_rfl) (fun h => by cases h) (fun _ => ?_)
  refine W.skip ?_
  refine W.seq ?_
  refine W.seq ?_
  refine W.region ?_
  refine WO.adv 2 (by kernel_rfl) ?_
  refine WO.callp (by kernel_rfl) (light_c (d := d) (by omega) e hd hv hK (id := 1) (g := 1) (ver := 0) (by kernel_rfl)) ?_
  refine WO.fin (by kernel_rfl) ?_
  refine W.cond (!(smallB e.val 400)) (by kernel_rfl) (fun hb1 => ?_) (fun hb1 => ?_)
  · refine W.sub 18 hb1 (by kernel_rfl) ?_
    refine W.seq ?_
    refine W.region ?_
    refine WO.fin (by kernel_rfl) ?_
    refine W.ret ?_
    exact RetQ.k (v' := .bool true) (by rfl) (by kernel_rfl) (by kernel_rfl)
  · refine W.sub 18 hb1 (by kernel_rfl) ?_
    refine W.skip ?_
    refine W.seq ?_
    refine W.region ?_
    refine WO.adv 1 (by kernel_rfl) ?_
    refine WO.callp (by kernel_rfl) (formatEvent_c (d := d) (by omega) e hd hv hK _) ?_
    refine WO.fin (by kernel_rfl) ?_
    refine W.seq ?_
    refine W.seq ?_
    refine W.region ?_
    refine WO.fin (by kernel_rfl) ?_
    refine W.cond ((fmtE e) == 0) (by kernel_rfl) (fun hb2 => ?_) (fun hb2 => ?_)
    · refine W.sub 25 hb2 (by kernel_rfl) ?_
      refine W.seq ?_
      refine W.region ?_
      refine WO.adv 1 (by kernel_rfl) ?_
      refine WO.callp (by kernel_rfl) (parseEvent2_c (n := m) (by omega) (fmtS e) hK _) ?_
      refine WO.fin (by kernel_rfl) ?_
      refine W.seq ?_
      refine W.region ?_
      refine WO.adv 3 (by kernel_rfl) ?_
      have hb3 : ((errOf (fmtS e)) != 0) = false := (by rw [back_err hv (eq_of_beq hb2)]; rfl)
      refine WO.sub 32 hb3 (by kernel_rfl) ?_
      refine WO.sub 33 hb3 (by kernel_rfl) ?_
      refine WO.adv 2 (by kernel_rfl) ?_
      refine WO.callp (by kernel_rfl) (sameEv_c (n := m) (d := 4002) (by omega) (evOf (fmtS e)) e (cParse_sm _).1 (cParse_sm _).2 (back_same hv (eq_of_beq hb2)) hK _) ?_
      refine WO.fin (by kernel_rfl) ?_
      refine W.cond false (by kernel_rfl) (fun h => by cases h) (fun _ => ?_)
      refine W.skip ?_
      refine W.seq ?_
      refine W.region ?_
      refine WO.adv 1 (by kernel_rfl) ?_
      refine WO.callp (by kernel_rfl) (parseEvent2_c (n := m) (by omega) s hK _) ?_
      refine WO.fin (by kernel_rfl) ?_
      refine W.seq ?_
      refine W.seq ?_
      refine W.region ?_
      refine WO.fin (by kernel_rfl) ?_
      refine W.cond ((errOf s) != 0) (by kernel_rfl) (fun hb4 => ?_) (fun hb4 => ?_)
      · refine W.sub 45 hb4 (by kernel_rfl) ?_
        refine W.seq ?_
        refine W.region ?_
        refine WO.fin (by kernel_rfl) ?_
        refine W.ret ?_
        exact RetQ.k (v' := .bool true) (by rfl) (by kernel_rfl) (by kernel_rfl)
      · refine W.sub 45 hb4 (by kernel_rfl) ?_
        refine W.skip ?_
        refine W.seq ?_
        refine W.region ?_
        refine WO.adv 1 (by kernel_rfl) ?_
        refine WO.callp (by kernel_rfl) (formatEvent_c (d := 4002) (by omega) (evOf s) (cParse_sm s).1 (cParse_sm s).2 hK _) ?_
        refine WO.fin (by kernel_rfl) ?_
        refine W.seq ?_
        refine W.region ?_
        refine WO.adv 3 (by kernel_rfl) ?_
        have hb5 : ((fmtE (evOf s)) == 0) = true := (by rw [show fmtE (evOf s) = 0 from (fmt_back (by have h9 := hb4; unfold errOf at h9; simpa using h9)).1]; rfl)
        refine WO.sub 52 hb5 (by kernel_rfl) ?_
        refine WO.sub 53 hb5 (by kernel_rfl) ?_
        refine WO.fin (by kernel_rfl) ?_
        refine W.ret ?_
        exact RetQ.k (v' := .bool (beqBytes (fmtS (evOf s)) s)) (by rw [show fmtS (evOf s) = s from (fmt_back (by have h9 := hb4; unfold errOf at h9; simpa using h9)).2, beqBytes_self]) (by kernel_rfl) (by kernel_rfl)
    · refine W.sub 25 hb2 (by kernel_rfl) ?_
      refine W.skip ?_
      refine W.seq ?_
      refine W.region ?_
      refine WO.adv 1 (by kernel_rfl) ?_
      refine WO.callp (by kernel_rfl) (parseEvent2_c (n := m) (by omega) s hK _) ?_
      refine WO.fin (by kernel_rfl) ?_
      refine W.seq ?_
      refine W.seq ?_
      refine W.region ?_
      refine WO.fin (by kernel_rfl) ?_
      refine W.cond ((errOf s) != 0) (by kernel_rfl) (fun hb6 => ?_) (fun hb6 => ?_)
      · refine W.sub 45 hb6 (by kernel_rfl) ?_
        refine W.seq ?_
        refine W.region ?_
        refine WO.fin (by kernel_rfl) ?_
        refine W.ret ?_
        exact RetQ.k (v' := .bool true) (by rfl) (by kernel_rfl) (by kernel_rfl)
      · refine W.sub 45 hb6 (by kernel_rfl) ?_
        refine W.skip ?_
        refine W.seq ?_
        refine W.region ?_
        refine WO.adv 1 (by kernel_rfl) ?_
        refine WO.callp (by kernel_rfl) (formatEvent_c (d := 4002) (by omega) (evOf s) (cParse_sm s).1 (cParse_sm s).2 hK _) ?_
        refine WO.fin (by kernel_rfl) ?_
        refine W.seq ?_
        refine W.region ?_
        refine WO.adv 3 (by kernel_rfl) ?_
        have hb7 : ((fmtE (evOf s)) == 0) = true := (by rw [show fmtE (evOf s) = 0 from (fmt_back (by have h9 := hb6; unfold errOf at h9; simpa using h9)).1]; rfl)
        refine WO.sub 52 hb7 (by kernel_rfl) ?_
        refine WO.sub 53 hb7 (by kernel_rfl) ?_
        refine WO.fin (by kernel_rfl) ?_
        refine W.ret ?_
        exact RetQ.k (v' := .bool (beqBytes (fmtS (evOf s)) s)) (by rw [show fmtS (evOf s) = s from (fmt_back (by have h9 := hb6; unfold errOf at h9; simpa using h9)).2, beqBytes_self]) (by kernel_rfl) (by kernel_rfl)

end
end Go.Abs
