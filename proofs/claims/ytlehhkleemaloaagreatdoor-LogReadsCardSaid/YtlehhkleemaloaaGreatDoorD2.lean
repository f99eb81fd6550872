/- A part of the proofs of the laws of logs: see the last text of this claim. -/
import Derived.Test.YtlehhkleemaloaaGreatDoorD1
namespace Go.Abs
noncomputable section
open Go Go.Proofs
variable {K : Nat}
/-! ## Lines that are read -/
/-- the first line with an error, and it; or how many there are, and 0 -/
def fbad (c : List UInt8 → Int) : Nat → List (List UInt8) → Nat × Int
  | k, [] => (k, 0)
  | k, s :: l => bif c s != 0 then (k, c s) else fbad c (k + 1) l
def longR (l : List (List UInt8)) : Bool := decide (((l.length : Nat) : Int) > 60)
def errOf (s : List UInt8) : Int := (cParse s).2
def rdC (l : List (List UInt8)) : Int := bif longR l then 2 else (fbad errOf 0 l).2
def rdN (l : List (List UInt8)) : Int := bif longR l then 0 else (((fbad errOf 0 l).1 : Nat) : Int)
def evOf (s : List UInt8) : Ev := (cParse s).1
def rdE (l : List (List UInt8)) : List Ev := bif rdC l != 0 then [] else l.map evOf
theorem fbad_at (c : List UInt8 → Int) : ∀ (l : List (List UInt8)) (k i : Nat), i < l.length → (∀ j, j < i → (c (l.getD j []) != 0) = false) → (c (l.getD i []) != 0) = true → fbad c k l = (k + i, c (l.getD i []))
  | [], k, i, h, _, _ => by cases h
  | s :: l, k, 0, _, _, h => by
    have h : (c s != 0) = true := h
    rw [fbad, h]; rfl
  | s :: l, k, i + 1, hi, h0, h => by
    have h1 : (c s != 0) = false := h0 0 (by omega)
    rw [fbad, h1, cond_false, fbad_at c l (k + 1) i (by simpa using hi) (fun j hj => h0 (j + 1) (by omega)) h, Nat.add_right_comm]; rfl
theorem fbad_end (c : List UInt8 → Int) : ∀ (l : List (List UInt8)) (k : Nat), (∀ j, j < l.length → (c (l.getD j []) != 0) = false) → fbad c k l = (k + l.length, 0)
  | [], k, _ => rfl
  | s :: l, k, h => by
    have h1 : (c s != 0) = false := h 0 (by simp)
    rw [fbad, h1, cond_false, fbad_end c l (k + 1) (fun j hj => h (j + 1) (by simpa using hj)), List.length_cons]
    congr 1; omega
section
variable {l : List (List UInt8)} {i : Nat}
theorem rd_long (h : longR l = true) : rdC l = 2 ∧ rdN l = 0 ∧ rdE l = [] := by
  have h1 : rdC l = 2 := by unfold rdC; rw [h]; rfl
  exact ⟨h1, by unfold rdN; rw [h]; rfl, by unfold rdE; rw [h1]; rfl⟩
theorem rd_bad (h : longR l = false) (hi : i < l.length) (h0 : ∀ j, j < i → (errOf (l.getD j []) != 0) = false) (h1 : (errOf (l.getD i []) != 0) = true) : rdC l = errOf (l.getD i []) ∧ rdN l = ((i : Nat) : Int) ∧ rdE l = [] := by
  have e := fbad_at errOf l 0 i hi h0 h1
  rw [Nat.zero_add] at e
  have h2 : rdC l = errOf (l.getD i []) := by unfold rdC; rw [h, e]; rfl
  exact ⟨h2, by unfold rdN; rw [h, e]; rfl, by unfold rdE; rw [h2, h1]; rfl⟩
theorem rd_end (h : longR l = false) (h0 : ∀ j, j < l.length → (errOf (l.getD j []) != 0) = false) : rdC l = 0 ∧ rdN l = ((l.length : Nat) : Int) ∧ rdE l = l.map evOf := by
  have e := fbad_end errOf l 0 h0
  rw [Nat.zero_add] at e
  have h2 : rdC l = 0 := by unfold rdC; rw [h, e]; rfl
  exact ⟨h2, by unfold rdN; rw [h, e]; rfl, by unfold rdE; rw [h2]; rfl⟩
theorem rlen (h : longR l = false) : l.length ≤ 60 := by
  have := of_decide_eq_false h
  omega
theorem rtake (h : longR l = false) (i : Nat) : ((l.take i).map evOf).length ≤ 60 := by
  have := rlen h
  rw [List.length_map, List.length_take]; omega
theorem ev_succ (hi : i < l.length) : (l.take (i + 1)).map evOf = (l.take i).map evOf ++ [evOf (l.getD i [])] := by rw [take_at l i [] hi, List.map_append]; rfl
theorem c_of_r (s : List UInt8) : (rParse s).2 = errOf s ∧ (rParse s).1 = evOf s := by rw [← parse_same s]; exact ⟨rfl, rfl⟩
end
theorem parseEvent2_c {n : Nat} (hn : 4020 ≤ n) (s : List UInt8) (hK : big ≤ K) (h : Heap) : (fns (Cg K) n).call 23 [.str s] h none = some (.val (.tup [.agg (evOf s).elv, .int .i64 (errOf s)]) h none) := parseEvent_c hn s hK h
theorem refParse2_c {n : Nat} (hn : 4020 ≤ n) (s : List UInt8) (hK : big ≤ K) (h : Heap) : (fns (Cg K) n).call 24 [.str s] h none = some (.val (.tup [.agg (evOf s).elv, .int .i64 (errOf s)]) h none) := by
  rw [← (c_of_r s).1, ← (c_of_r s).2]
  exact refParse_c hn s hK h
/-! ### a copy of what came in -/
theorem own_texts {nn : Bool} {l : List (List UInt8)} (hl : l.length * 16 ≤ 140737488355328) :
    ∃ v' h', builtinA (Cg K) (hpL [bk 0 9 true 0 []]) .append #[29, 29] [.slO 0 0 1 0 0 true, textsA nn l] = some (v', h') ∧ ∀ k, freezeA h' (k + 2) v' = some (textsA false l) := by
  have h0 : builtinA (Cg K) (hpL [bk 0 9 true 0 []]) .append #[29, 29] [.slO 0 0 1 0 0 true, textsA nn l] = appendA (hpL [bk 0 9 true 0 []]) 9 1 16 (.slO 0 0 1 0 0 true) (textsA nn l) := by kernel_rfl
  rw [h0]
  cases hl0 : l with
  | nil =>
    refine ⟨.slO 0 0 1 0 0 true, hpL [bk 0 9 true 1 []], ?_, fun k => ?_⟩
    · cases nn with
      | true => rfl
      | false => rfl
    · rfl
  | cons a r =>
    rw [← hl0]
    have hn : l.length = r.length + 1 := by rw [hl0]; rfl
    have ht : ∀ b, textsA b l = .slR (l.map .str) 0 l.length l.length false := by intro b; unfold textsA; rw [hn]; rfl
    rw [ht nn, ht false]
    have hm : (l.map AV.str).length = l.length := List.length_map ..
    refine ⟨.slO 1 0 1 l.length l.length false, (hpL [bk 0 9 true 0 []]).new 9 false (l.map .str), ?_, fun k => ?_⟩
    · unfold appendA
      have hx : lenA (.slR (l.map .str) 0 l.length l.length false) = some l.length := rfl
      have hf : firstA (hpL [bk 0 9 true 0 []]) 1 l.length (.slR (l.map .str) 0 l.length l.length false) = some (l.map .str) := by
        show partN (l.map .str) 0 (Nat.mul l.length 1) = _
        unfold partN
        simp only [lenN_eq, takeN_eq, dropN_eq, hm]
        rw [show Nat.ble (Nat.add 0 (Nat.mul l.length 1)) l.length = true from Nat.ble_eq_true_of_le (by show 0 + l.length * 1 ≤ _; omega)]
        simp only [cond_true, List.drop_zero, Option.some.injEq]
        exact List.take_of_length_le (by rw [hm]; show _ ≤ l.length * 1; omega)
      rw [hx]
      simp only [hf]
      unfold appendO
      rw [show Nat.beq 1 1 = true from rfl]
      simp only [Bool.not_true, cond_false]
      rw [show Nat.ble (Nat.add 0 l.length) 0 = false from by
        cases hh : Nat.ble (Nat.add 0 l.length) 0 with
        | false => rfl
        | true => have : 0 + l.length ≤ 0 := Nat.le_of_ble_eq_true hh; omega]
      simp only [cond_false]
      rw [show roomOk (Nat.add 0 l.length) 16 = true from by
        unfold roomOk
        rw [Bool.and_eq_true]
        exact ⟨Nat.ble_eq_true_of_le (by show (0 + l.length) * 16 ≤ _; omega), Nat.ble_eq_true_of_le (by show 0 + l.length ≤ _; omega)⟩]
      simp only [Bool.not_true, cond_false]
      rw [show cellsAt (hpL [bk 0 9 true 0 []]) 0 0 (Nat.mul 0 1) = some [] from by kernel_rfl]
      simp only [cond_true, List.nil_append]
      show some (AV.slO _ 0 1 (Nat.add 0 l.length) (Nat.add 0 l.length) false, _) = _
      rw [show Nat.add 0 l.length = l.length from Nat.zero_add _]
      rfl
    · rw [freezeA_succ]
      simp only
      have hg : ((hpL [bk 0 9 true 0 []]).new 9 false (l.map .str)).get 1 = some (newBlk 1 9 false (l.map .str)) := by kernel_rfl
      have hc : cellsAt ((hpL [bk 0 9 true 0 []]).new 9 false (l.map .str)) 1 0 (Nat.mul l.length 1) = some (l.map .str) := by
        unfold cellsAt
        rw [hg]
        show (bif true then partN (l.map .str) 0 (l.length * 1) else none) = _
        unfold partN
        simp only [cond_true, lenN_eq, takeN_eq, dropN_eq, hm]
        rw [show Nat.ble (Nat.add 0 (l.length * 1)) l.length = true from Nat.ble_eq_true_of_le (by show 0 + l.length * 1 ≤ _; omega)]
        simp only [cond_true, List.drop_zero, Option.some.injEq]
        exact List.take_of_length_le (by rw [hm]; omega)
      rw [hc]
      simp only
      rw [freezeL_same (l.map AV.str) fun c hcm => by obtain ⟨e, _, rfl⟩ := List.mem_map.1 hcm; rfl]
/-! ### events of one's own, looked at -/
theorem slE_at {id n i : Nat} (hi : i < n) (h : Heap) : keep h (opIndexAddr (Cg K) 22 (.slO id 0 11 n n false) (.int .i64 ((i : Nat) : Int))) = some (.ptrO id (Nat.add 0 (Nat.mul i 11)), h) := by
  have e : keep h (opIndexAddr (Cg K) 22 (.slO id 0 11 n n false) (.int .i64 ((i : Nat) : Int))) = keep h (bif Nat.ble (Nat.succ i) n && knownT (Cg K) 37 then some (.ptrO id (Nat.add 0 (Nat.mul i (sizeT (Cg K) 37)))) else none) := by kernel_rfl
  rw [e, show Nat.ble (Nat.succ i) n = true from Nat.ble_eq_true_of_le hi, k37, z37]; rfl
theorem slE_get {h : Heap} {id i : Nat} {b : Blk} {l : List Ev} (hb : h.get id = some b) (hc : b.cells = l.flatMap Ev.cells) (hk : b.kind = .row) (hi : i < l.length) : keep h (opLoad (Cg K) h 37 (.ptrO id (Nat.add 0 (Nat.mul i 11)))) = some (.agg (l.getD i default).elv, h) := by
  have e : opLoad (Cg K) h 37 (.ptrO id (Nat.add 0 (Nat.mul i 11))) = (match cellsAt h id (Nat.add 0 (Nat.mul i 11)) 11 with | some cs => mkT (Cg K) 37 cs | none => none) := by kernel_rfl
  have hp := part_of ev_len l i (l.getD i default) (by rw [List.getD_eq_getElem?_getD, List.getElem?_eq_getElem hi]; rfl)
  rw [ev_cells] at hp
  have hq : cellsAt h id (Nat.add 0 (Nat.mul i 11)) 11 = some (l.getD i default).elv := by
    unfold cellsAt
    rw [hb]
    simp only [hk]
    rw [hc]
    exact hp
  rw [e, hq]
  have : ∀ e : Ev, mkT (Cg K) 37 e.elv = some (.agg e.elv) := fun e => by kernel_rfl
  simp only [this]; rfl
/-- over the caller's memory, though the function is one that is run over a heap of its own where it can be -/
theorem plainq2 {C : Cfg} {F : Fns} {f : FuncId} {fn : Func} {c : Code} {args : List AV} {v : AV} (ho : C.own1 f = false) (hn : noOwnL (noOwn deep) args = false) (hs : C.spec f args = none) (hf : C.P.funcs[f]? = some fn) (hb : fn.body = some c) (hl : Nat.ble (lenN args) fn.ntmps = true) {h h' : Heap}
    (w : W C F c { n := fn.ntmps, tm := tmOf 0 args (fullT 12 fn.ntmps), h, ds := [], pn := none } (RetN C F fn v h')) : (stepF C F).call f args h none = some (.val v h' none) := by
  have := body_of hf hb hl rfl w
  show callA C F f args h none = _
  unfold callA
  simp only [hs]
  unfold callA0
  rw [ho, hn]
  simpa using this
theorem own_no {a : AV} {id n : Nat} : noOwnL (noOwn deep) [a, .slO id 0 11 n n false] = false := by
  show (noOwn deep a && (false && true)) = false
  rw [Bool.false_and, Bool.and_false]
theorem textsD (b : Bool) (l : List (List UInt8)) : noOwn deep (textsA b l) = true := sliceA_own 63 _ _ _
theorem freeze_three {h : Heap} {v w : AV} {a b : Int} (hv : freezeA h 63 v = some w) : freezeA h deep (res1 [v, .int .i64 a, .int .i64 b]) = some (.tup [w, .int .i64 a, .int .i64 b]) := by
  show freezeA h (63 + 1) (.tup [v, .int .i64 a, .int .i64 b]) = _
  rw [freezeA_succ]
  simp only [freezeL_cons, hv]
  rfl
end
end Go.Abs
namespace Go.Abs
noncomputable section
open Go Go.Proofs
variable {K : Nat}
set_option maxRecDepth 20000 in
theorem ownTexts_c {n : Nat}  (hn : 1 ≤ n) (nn : Bool) (l : List (List UInt8)) (hl : l.length * 16 ≤ 140737488355328)  (h : Heap) : (fns (Cg K) n).call 28 [(textsA nn l)] h none = some (.val (textsA false l) h none) := by
  obtain ⟨m, rfl⟩ : ∃ m, n = m + 1 := ⟨n - 1, by omega⟩
  refine pureq (C := Cg K) (F := fns (Cg K) m) (fn := Tryz.f28) (c := bodyOf Tryz.f28) (by kernel_rfl) (by kernel_rfl) (by kernel_rfl) (noL (textsD _ _) rfl) (by kernel_rfl) (by kernel_rfl) (by kernel_rfl) ?_ h
  refine W.seq ?_
  refine W.region ?_
  refine WO.fin (by kernel_rfl) ?_
  refine W.seq ?_
  refine W.region ?_
  refine WO.adv 2 (by kernel_rfl) ?_
  obtain ⟨x1, h1, he1, hf1⟩ := own_texts (K := K) (nn := nn) (l := l) hl
  refine WO.opk he1 (by kernel_rfl) ?_
  refine WO.fin (by kernel_rfl) ?_
  refine W.ret ?_
  exact RetQ.kh (vs := [x1]) (h' := h1) (v' := textsA false l) (by kernel_rfl) rfl (by kernel_rfl) (by kernel_rfl) (hf1 62)

set_option maxRecDepth 20000 in
theorem readLines_c {n : Nat}  (hn : 4021 ≤ n) (nn : Bool) (l : List (List UInt8)) (hl : l.length < big) (hK : big ≤ K)  (h : Heap) : (fns (Cg K) n).call 27 [(textsA nn l)] h none = some (.val (.tup [evsA true (rdE l), .int .i64 (rdN l), .int .i64 (rdC l)]) h none) := by
  obtain ⟨m, rfl⟩ : ∃ m, n = m + 1 := ⟨n - 1, by omega⟩
  have hlen : l.length ≤ 9223372036854775807 := by unfold big at hl; omega
  have hlK : l.length < (Cg K).loops := by rw [loops_eq]; omega
  refine pureq (C := Cg K) (F := fns (Cg K) m) (fn := Tryz.f27) (c := bodyOf Tryz.f27) (by kernel_rfl) (by kernel_rfl) (by kernel_rfl) (noL (textsD _ _) rfl) (by kernel_rfl) (by kernel_rfl) (by kernel_rfl) ?_ h
  refine W.seq ?_
  refine W.region ?_
  refine WO.fin (by kernel_rfl) ?_
  refine W.seq ?_
  refine W.seq ?_
  refine W.region ?_
  refine WO.adv 1 (by kernel_rfl) ?_
  refine WO.opc (fun h => texts_len (K := K) (h := h) (b := nn) (l := l)) (by kernel_rfl) ?_
  refine WO.fin (by kernel_rfl) ?_
  refine W.cond (decide (((l.length : Nat) : Int) > 60)) (by kernel_rfl) (fun hb1 => ?_) (fun hb1 => ?_)
  · refine W.sub 12 hb1 (by kernel_rfl) ?_
    refine W.seq ?_
    refine W.region ?_
    refine WO.fin (by kernel_rfl) ?_
    refine W.ret ?_
    exact RetQ.k (v' := .tup [.nils, .int .i64 0, .int .i64 2]) (by have hr := (rd_long hb1); rw [hr.1, hr.2.1, hr.2.2]; rfl) (by kernel_rfl) (by kernel_rfl)
  · refine W.sub 12 hb1 (by kernel_rfl) ?_
    refine W.skip ?_
    refine W.seq ?_
    refine W.region ?_
    refine WO.fin (by kernel_rfl) ?_
    refine W.seq ?_
    refine W.seq ?_
    refine W.region ?_
    refine WO.adv 1 (by kernel_rfl) ?_
    refine WO.opc (fun h => texts_len (K := K) (h := h) (b := nn) (l := l)) (by kernel_rfl) ?_
    refine WO.fin (by kernel_rfl) ?_
    refine W.block ?_
    refine W.loopc (len := l.length) (fun i t => (S 37 [some ((textsA nn l)), none, (t.g 2), (t.g 3), (t.g 4), some ((t.v 5)), (t.g 6), (t.g 7), (t.g 8), (t.g 9), some ((textsA nn l)), some (.int .i64 ((l.length : Nat) : Int)), some (.bool false), some ((textsA nn l)), some (.int .i64 ((l.length : Nat) : Int)), some (.int .i64 ((i : Nat) : Int)), (t.g 16), (t.g 17), (t.g 18), (t.g 19), (t.g 20), (t.g 21), (t.g 22), (t.g 23), (t.g 24), (t.g 25), (t.g 26), (t.g 27), (t.g 28), (t.g 29), (t.g 30), (t.g 31), (t.g 32), (t.g 33), none, none, none] t.h)) (fun i t => (OwnEv t.h (t.v 5) ((l.take i).map evOf) t.h.next ∧ ∀ j, j < i → (errOf (l.getD j []) != 0) = false) ∧ (0 ≤ t.h.next)) hlK ?_ ?_ ?_
    · exact Told.k (by kernel_rfl)
    · refine ⟨?_, hv_next (h := (hpL [])) (by kernel_rfl) (by exact Nat.le_of_ble_eq_true (by kernel_rfl))⟩
      exact ⟨OwnEv.at (h := (hpL [])) (x := .nils) (l := []) (by kernel_rfl) (by kernel_rfl) rfl (OwnEv.nil _), fun j hj => by omega⟩
    · rintro i2 t2 hi2 ⟨hI2, hnx_i2⟩
      refine W.seq ?_
      refine W.region ?_
      refine WO.fin (by kernel_rfl) ?_
      refine W.seq ?_
      refine W.cond (decide (((i2 : Nat) : Int) < ((l.length : Nat) : Int))) (by kernel_rfl) (fun hb3 => ?_) (fun hb3 => ?_)
      · refine W.sub 16 hb3 (by kernel_rfl) ?_
        refine W.skip ?_
        refine W.seq ?_
        refine W.block ?_
        refine W.seq ?_
        refine W.region ?_
        refine WO.adv 1 (by kernel_rfl) ?_
        refine WO.opc (fun h => texts_at (K := K) (h := h) (b := nn) (l := l) (lt_of_dec hb3)) (by kernel_rfl) ?_
        refine WO.opc (fun h => text_get (K := K) (h := h) (l := l) (lt_of_dec hb3)) (by kernel_rfl) ?_
        refine WO.fin (by kernel_rfl) ?_
        refine W.seq ?_
        refine W.region ?_
        refine WO.adv 1 (by kernel_rfl) ?_
        refine WO.callp (by kernel_rfl) (parseEvent2_c (n := m) (by omega) (l.getD i2 []) hK _) ?_
        refine WO.adv 3 (by kernel_rfl) ?_
        refine WO.opk (y := some (.ptrO t2.h.next 0, (t2.h.new 37 true [.int .i64 0, .int .i64 0, .str [], .str [], .int .i64 0, .int .i64 0, .int .i64 0, .str [], .nils, .nils, .int .i64 0]))) rfl (by kernel_rfl) ?_
        refine WO.opk (y := opStore (Cg K) (t2.h.new 37 true [.int .i64 0, .int .i64 0, .str [], .str [], .int .i64 0, .int .i64 0, .int .i64 0, .str [], .nils, .nils, .int .i64 0]) 37 (.ptrO t2.h.next 0) (.agg ((evOf (l.getD i2 [])).elv))) (x := .tup []) (h' := ((t2.h.new 37 true [.int .i64 0, .int .i64 0, .str [], .str [], .int .i64 0, .int .i64 0, .int .i64 0, .str [], .nils, .nils, .int .i64 0]).set t2.h.next (bk t2.h.next 37 true 1 ((evOf (l.getD i2 [])).elv)))) (store_k gnew (by kernel_rfl) (by kernel_rfl)) (by kernel_rfl) ?_
        refine WO.fin (by kernel_rfl) ?_
        refine W.seq ?_
        refine W.seq ?_
        refine W.region ?_
        refine WO.fin (by kernel_rfl) ?_
        refine W.cond ((errOf (l.getD i2 [])) != 0) (by kernel_rfl) (fun hb4 => ?_) (fun hb4 => ?_)
        · refine W.sub 26 hb4 (by kernel_rfl) ?_
          refine W.seq ?_
          refine W.region ?_
          refine WO.fin (by kernel_rfl) ?_
          refine W.ret ?_
          exact RetQ.k (v' := .tup [.nils, .int .i64 ((i2 : Nat) : Int), .int .i64 (errOf (l.getD i2 []))]) (by have hr := (rd_bad hb1 (lt_of_dec hb3) hI2.2 hb4); rw [hr.1, hr.2.1, hr.2.2]; rfl) (by kernel_rfl) (by kernel_rfl)
        · refine W.sub 26 hb4 (by kernel_rfl) ?_
          refine W.skip ?_
          refine W.region ?_
          refine WO.adv 1 (by kernel_rfl) ?_
          refine WO.opk (y := keep ((t2.h.new 37 true [.int .i64 0, .int .i64 0, .str [], .str [], .int .i64 0, .int .i64 0, .int .i64 0, .str [], .nils, .nils, .int .i64 0]).set t2.h.next (bk t2.h.next 37 true 1 ((evOf (l.getD i2 [])).elv))) (opLoad (Cg K) ((t2.h.new 37 true [.int .i64 0, .int .i64 0, .str [], .str [], .int .i64 0, .int .i64 0, .int .i64 0, .str [], .nils, .nils, .int .i64 0]).set t2.h.next (bk t2.h.next 37 true 1 ((evOf (l.getD i2 [])).elv))) 37 (.ptrO t2.h.next 0))) (x := .agg ((evOf (l.getD i2 [])).elv)) (h' := ((t2.h.new 37 true [.int .i64 0, .int .i64 0, .str [], .str [], .int .i64 0, .int .i64 0, .int .i64 0, .str [], .nils, .nils, .int .i64 0]).set t2.h.next (bk t2.h.next 37 true 1 ((evOf (l.getD i2 [])).elv)))) (load_k gss (by kernel_rfl)) (by kernel_rfl) ?_
          refine WO.opk (y := some (.slO (Nat.succ t2.h.next) 0 11 1 1 true, (((t2.h.new 37 true [.int .i64 0, .int .i64 0, .str [], .str [], .int .i64 0, .int .i64 0, .int .i64 0, .str [], .nils, .nils, .int .i64 0]).set t2.h.next (bk t2.h.next 37 true 1 ((evOf (l.getD i2 [])).elv))).new 37 true ((evOf (l.getD i2 [])).elv)))) rfl (by kernel_rfl) ?_
          obtain ⟨x5, h5, he5, hO5, hn5⟩ := append_ev (K := K) (h := (((t2.h.new 37 true [.int .i64 0, .int .i64 0, .str [], .str [], .int .i64 0, .int .i64 0, .int .i64 0, .str [], .nils, .nils, .int .i64 0]).set t2.h.next (bk t2.h.next 37 true 1 ((evOf (l.getD i2 [])).elv))).new 37 true ((evOf (l.getD i2 [])).elv))) (v := (t2.v 5)) (l := ((l.take i2).map evOf)) (id := (Nat.succ t2.h.next)) (g := (Nat.succ t2.h.next)) (ver := 0) (e := (evOf (l.getD i2 []))) (OwnEv.new (OwnEv.set (j := t2.h.next) (by omega) (OwnEv.new hI2.1))) (rtake hb1 _) gnew
          refine WO.opk he5 (by kernel_rfl) ?_
          refine WO.fin (by kernel_rfl) ?_
          refine W.region ?_
          refine WO.fin (by kernel_rfl) ?_
          have hlt : i2 < l.length := ((lt_of_dec hb3))
          refine ⟨hlt, ⟨?_, hv_next (h := h5) (by kernel_rfl) (by first | omega | (simp only [nnew, nset]; omega))⟩, ?_⟩
          · exact ⟨OwnEv.at (h := h5) (by kernel_rfl) (by kernel_rfl) (ev_succ hlt).symm (OwnEv.grow hO5), fun j hj => by rcases Nat.lt_succ_iff_lt_or_eq.1 hj with h | rfl; exact hI2.2 j h; exact hb4⟩
          · refine Told.put 15 (wrapA hlt hlen) (by kernel_rfl) ?_
            exact Told.k (by kernel_rfl)
      · refine W.sub 16 hb3 (by kernel_rfl) ?_
        refine W.exit ?_
        refine blockQ ?_
        refine W.seq ?_
        refine W.region ?_
        refine WO.adv 2 (by kernel_rfl) ?_
        refine WO.opc (fun h => texts_len (K := K) (h := h) (b := nn) (l := l)) (by kernel_rfl) ?_
        refine WO.fin (by kernel_rfl) ?_
        refine W.ret ?_
        exact RetQ.kh (vs := [(t2.v 5), .int .i64 ((l.length : Nat) : Int), .int .i64 0]) (h' := t2.h) (v' := .tup [evsA true (rdE l), .int .i64 ((l.length : Nat) : Int), .int .i64 0]) (by kernel_rfl) (by have hr := (rd_end hb1 (fun j hj => hI2.2 j (by have := end_eq hi2 hb3; omega))); rw [hr.1, hr.2.1]) (by kernel_rfl) (by kernel_rfl) (freeze_three (by have hr := (rd_end hb1 (fun j hj => hI2.2 j (by have := end_eq hi2 hb3; omega))); rw [hr.2.2]; have h1 := hI2.1; rw [end_eq hi2 hb3, List.take_length] at h1; exact OwnEv.freeze h1))

set_option maxRecDepth 20000 in
theorem sameEvs1_c {n : Nat} {d : Nat} (hn : 2 * d + 6 ≤ n) (nn : Bool) (l k : List Ev) (hd : ∀ i, i < l.length → (l.getD i default).val.dep ≤ d ∧ (l.getD i default).val.ok) (hl : l.length < big) (hlk : l.length = k.length) (hs : ∀ i, i < l.length → (l.getD i default).same (k.getD i default)) (hK : big ≤ K) {h : Heap} {id : Nat} {c : Blk} (hb : h.get id = some c) (hc : c.cells = k.flatMap Ev.cells) (hk : c.kind = .row)  : (fns (Cg K) n).call 19 [(evsA nn l), .slO id 0 11 k.length k.length false] h none = some (.val (.bool true) h none) := by
  obtain ⟨m, rfl⟩ : ∃ m, n = m + 1 := ⟨n - 1, by omega⟩
  have hlen : l.length ≤ 9223372036854775807 := by unfold big at hl; omega
  have hlK : l.length < (Cg K).loops := by rw [loops_eq]; omega
  have hk2 : ∀ {j : Nat}, j < l.length → j < k.length := fun h => by omega
  have hrec : ∀ i, i < l.length → ∀ h, (fns (Cg K) m).call 25 [.agg (l.getD i default).elv, .agg (k.getD i default).elv] h none = some (.val (.bool true) h none) := fun i hi h => sameEv_c (d := d) (by omega) _ _ (hd i hi).1 (hd i hi).2 (hs i hi) hK h
  refine plainq2 (C := Cg K) (F := fns (Cg K) m) (fn := Tryz.f19) (c := bodyOf Tryz.f19) (by kernel_rfl) own_no (by kernel_rfl) (by kernel_rfl) (by kernel_rfl) (by kernel_rfl) ?_
  refine W.seq ?_
  refine W.region ?_
  refine WO.fin (by kernel_rfl) ?_
  refine W.seq ?_
  refine W.seq ?_
  refine W.region ?_
  refine WO.adv 1 (by kernel_rfl) ?_
  refine WO.opc (fun h => evs_len (K := K) (h := h) (b := nn) (l := l)) (by kernel_rfl) ?_
  refine WO.fin (by kernel_rfl) ?_
  have hb1 : (((l.length : Nat) : Int) != ((k.length : Nat) : Int)) = false := len_no hlk
  refine W.sub 10 hb1 (by kernel_rfl) ?_
  refine W.cond false (by kernel_rfl) (fun h => by cases h) (fun _ => ?_)
  refine W.skip ?_
  refine W.seq ?_
  refine W.seq ?_
  refine W.region ?_
  refine WO.fin (by kernel_rfl) ?_
  refine W.block ?_
  refine W.loopc (len := l.length) (fun i t => (S 27 [some ((evsA nn l)), some (.slO id 0 11 k.length k.length false), none, none, (t.g 4), some (.int .i64 ((i : Nat) : Int)), some ((evsA nn l)), some (.int .i64 ((l.length : Nat) : Int)), some (.slO id 0 11 k.length k.length false), some (.int .i64 ((k.length : Nat) : Int)), some (.bool false), (t.g 11), (t.g 12), (t.g 13), (t.g 14), (t.g 15), (t.g 16), (t.g 17), (t.g 18), (t.g 19), (t.g 20), (t.g 21), (t.g 22), (t.g 23), (t.g 24), (t.g 25), (t.g 26)] h)) (fun i t => (True)) hlK ?_ ?_ ?_
  · exact Told.k (by kernel_rfl)
  · trivial
  · intro i2 t2 hi2 hI2
    refine W.seq ?_
    refine W.seq ?_
    refine W.region ?_
    refine WO.adv 2 (by kernel_rfl) ?_
    refine WO.opc (fun h => evs_len (K := K) (h := h) (b := nn) (l := l)) (by kernel_rfl) ?_
    refine WO.fin (by kernel_rfl) ?_
    refine W.cond (decide (((i2 : Nat) : Int) < ((l.length : Nat) : Int))) (by kernel_rfl) (fun hb3 => ?_) (fun hb3 => ?_)
    · refine W.sub 14 hb3 (by kernel_rfl) ?_
      refine W.skip ?_
      refine W.seq ?_
      refine W.block ?_
      refine W.seq ?_
      refine W.drawn2 (by kernel_rfl) ?_
      refine WE.adv (j' := 2) 2 (by kernel_rfl) (by kernel_rfl) ?_
      refine WE.opq (fun h => evs_at (K := K) (h := h) (b := nn) (lt_of_dec hb3)) (by kernel_rfl) (by kernel_rfl) ?_
      refine WE.opl (fun h => ev_elv (K := K) (h := h) (lt_of_dec hb3)) (by kernel_rfl) (by kernel_rfl) (by kernel_rfl) ?_
      refine WE.adv (j' := 6) 2 (by kernel_rfl) (by kernel_rfl) ?_
      refine WE.opq (slE_at (K := K) (id := id) (n := k.length) (hk2 (lt_of_dec hb3))) (by kernel_rfl) (by kernel_rfl) ?_
      refine WE.opr (y := keep h (opLoad (Cg K) h 37 (.ptrO id (Nat.add 0 (Nat.mul i2 11))))) (x := .agg ((k.getD i2 default).elv)) (id := id) (by kernel_rfl) (slE_get hb hc hk (hk2 (lt_of_dec hb3))) (by kernel_rfl) (by kernel_rfl) (by kernel_rfl) ?_
      refine WE.callp (by kernel_rfl) (by kernel_rfl) (hrec i2 (lt_of_dec hb3) _) ?_
      refine WE.fin (by kernel_rfl) ?_
      refine W.cond false (by kernel_rfl) (fun h => by cases h) (fun _ => ?_)
      refine W.skip ?_
      refine W.region ?_
      refine WO.fin (by kernel_rfl) ?_
      have hlt : i2 < l.length := ((lt_of_dec hb3))
      refine ⟨hlt, ?_, ?_⟩
      · trivial
      · refine Told.put 5 (wrapA hlt hlen) (by kernel_rfl) ?_
        exact Told.k (by kernel_rfl)
    · refine W.sub 14 hb3 (by kernel_rfl) ?_
      refine W.exit ?_
      refine blockQ ?_
      refine W.seq ?_
      refine W.region ?_
      refine WO.fin (by kernel_rfl) ?_
      refine W.ret ?_
      exact RetN.k (v' := .bool true) (h' := h) (by rfl) (by rfl) (by kernel_rfl) (by kernel_rfl) (by kernel_rfl)

theorem sameEvs2_c {n d : Nat} (hn : 2 * d + 6 ≤ n) {l k : List Ev} (hd : ∀ i, i < l.length → (l.getD i default).val.dep ≤ d ∧ (l.getD i default).val.ok) (hl : l.length < big) (hK : big ≤ K) {h : Heap} {x : AV} {bd : Nat} (e : l = k) (O : OwnEv h x k bd) : (fns (Cg K) n).call 19 [evsA true l, x] h none = some (.val (.bool true) h none) := by
  subst e
  rcases O.2 with ⟨rfl, e, _⟩ | ⟨id, c, rfl, _, hb, hc, _, hk, _⟩
  · have e0 : l = [] := List.eq_nil_of_length_eq_zero e
    subst e0
    exact sameEvs_c (K := K) (d := d) hn true true [] [] hd hl rfl (fun i hi => by cases hi) hK h
  · exact sameEvs1_c hn true l l hd hl rfl (fun i _ => Ev.same_refl _) hK hb hc hk
theorem evs_dep (l : List (List UInt8)) (i : Nat) (hi : i < (l.map evOf).length) : ((l.map evOf).getD i default).val.dep ≤ 4002 ∧ ((l.map evOf).getD i default).val.ok := by
  rw [List.getD_eq_getElem?_getD, List.getElem?_eq_getElem hi, Option.getD_some, List.getElem_map]
  exact cParse_sm _

set_option maxRecDepth 20000 in
theorem logReads_c {n : Nat}  (hn : 9000 ≤ n) (nn : Bool) (l : List (List UInt8)) (hl : l.length < big) (hl2 : l.length * 16 ≤ 140737488355328) (hK : big ≤ K)  (h : Heap) : (fns (Cg K) n).call 7 [(textsA nn l)] h none = some (.val (.bool true) h none) := by
  obtain ⟨m, rfl⟩ : ∃ m, n = m + 1 := ⟨n - 1, by omega⟩
  have hlen : l.length ≤ 9223372036854775807 := by unfold big at hl; omega
  have hlK : l.length < (Cg K).loops := by rw [loops_eq]; omega
  refine pureq (C := Cg K) (F := fns (Cg K) m) (fn := Tryz.f7) (c := bodyOf Tryz.f7) (by kernel_rfl) (by kernel_rfl) (by kernel_rfl) (noL (textsD _ _) rfl) (by kernel_rfl) (by kernel_rfl) (by kernel_rfl) ?_ h
  refine W.seq ?_
  refine W.region ?_
  refine WO.fin (by kernel_rfl) ?_
  refine W.seq ?_
  refine W.seq ?_
  refine W.region ?_
  refine WO.callp (by kernel_rfl) (awake_c (by omega) _) ?_
  refine WO.fin (by kernel_rfl) ?_
  refine W.cond false (by kernel_rfl) (fun h => by cases h) (fun _ => ?_)
  refine W.skip ?_
  refine W.seq ?_
  refine W.region ?_
  refine WO.adv 1 (by kernel_rfl) ?_
  refine WO.callp (by kernel_rfl) (ownTexts_c (n := m) (by omega) nn l hl2 _) ?_
  refine WO.callp (by kernel_rfl) (readLines_c (n := m) (by omega) false l hl hK _) ?_
  refine WO.fin (by kernel_rfl) ?_
  refine W.seq ?_
  refine W.seq ?_
  refine W.region ?_
  refine WO.adv 1 (by kernel_rfl) ?_
  refine WO.opc (fun h => texts_len (K := K) (h := h) (b := nn) (l := l)) (by kernel_rfl) ?_
  refine WO.fin (by kernel_rfl) ?_
  refine W.cond (decide (((l.length : Nat) : Int) > 60)) (by kernel_rfl) (fun hb1 => ?_) (fun hb1 => ?_)
  · refine W.sub 21 hb1 (by kernel_rfl) ?_
    refine W.seq ?_
    refine W.region ?_
    refine WO.adv 3 (by kernel_rfl) ?_
    have hb2 : ((rdC l) == 2) = true := (by rw [(rd_long hb1).1]; simp)
    refine WO.sub 23 hb2 (by kernel_rfl) ?_
    refine WO.sub 24 hb2 (by kernel_rfl) ?_
    refine WO.adv 4 (by kernel_rfl) ?_
    have hb3 : ((rdN l) == 0) = true := (by rw [(rd_long hb1).2.1]; simp)
    refine WO.sub 26 hb3 (by kernel_rfl) ?_
    refine WO.sub 27 hb3 (by kernel_rfl) ?_
    refine WO.sub 28 hb3 (by kernel_rfl) ?_
    refine WO.adv 1 (by kernel_rfl) ?_
    refine WO.opc (fun h => evs_len (K := K) (h := h) (b := true) (l := (rdE l))) (by kernel_rfl) ?_
    refine WO.fin (by kernel_rfl) ?_
    refine W.ret ?_
    exact RetQ.k (v' := .bool ((((rdE l).length : Nat) : Int) == 0)) (by rw [(rd_long hb1).2.2]; rfl) (by kernel_rfl) (by kernel_rfl)
  · refine W.sub 21 hb1 (by kernel_rfl) ?_
    refine W.skip ?_
    refine W.seq ?_
    refine W.region ?_
    refine WO.fin (by kernel_rfl) ?_
    refine W.seq ?_
    refine W.seq ?_
    refine W.region ?_
    refine WO.fin (by kernel_rfl) ?_
    refine W.block ?_
    refine W.loopc (len := l.length) (fun i t => (S 79 ((some ((textsA nn l))) :: none :: (t.g 2) :: (some ((evsA true (rdE l)))) :: (some (.int .i64 (rdN l))) :: (some (.int .i64 (rdC l))) :: (some ((t.v 6))) :: (some (.int .i64 ((i : Nat) : Int))) :: (t.g 8) :: (t.g 9) :: (some (.bool true)) :: (some (.bool false)) :: (some (.tup [(evsA true (rdE l)), .int .i64 (rdN l), .int .i64 (rdC l)])) :: (some ((textsA nn l))) :: (some ((textsA false l))) :: (some (.tup [(evsA true (rdE l)), .int .i64 (rdN l), .int .i64 (rdC l)])) :: (some ((evsA true (rdE l)))) :: (some (.int .i64 (rdN l))) :: (some (.int .i64 (rdC l))) :: (some ((textsA nn l))) :: (some (.int .i64 ((l.length : Nat) : Int))) :: (some (.bool false)) :: none :: none :: none :: none :: none :: none :: none :: none :: none :: none :: none :: (t.g 33) :: (t.g 34) :: (t.g 35) :: (t.g 36) :: (t.g 37) :: (t.g 38) :: (t.g 39) :: (t.g 40) :: (t.g 41) :: (t.g 42) :: (t.g 43) :: (t.g 44) :: (t.g 45) :: (t.g 46) :: (t.g 47) :: (t.g 48) :: (t.g 49) :: (t.g 50) :: (t.g 51) :: (t.g 52) :: (t.g 53) :: (t.g 54) :: (t.g 55) :: (t.g 56) :: (t.g 57) :: (t.g 58) :: (t.g 59) :: (t.g 60) :: (t.g 61) :: (t.g 62) :: (t.g 63) :: (t.g 64) :: (t.g 65) :: none :: none :: none :: none :: none :: none :: none :: none :: none :: none :: none :: none :: none :: []) t.h)) (fun i t => (OwnEv t.h (t.v 6) ((l.take i).map evOf) t.h.next ∧ ∀ j, j < i → (errOf (l.getD j []) != 0) = false) ∧ (0 ≤ t.h.next)) hlK ?_ ?_ ?_
    · exact Told.k (by kernel_rfl)
    · refine ⟨?_, hv_next (h := (hpL [])) (by kernel_rfl) (by exact Nat.le_of_ble_eq_true (by kernel_rfl))⟩
      exact ⟨OwnEv.at (h := (hpL [])) (x := .nils) (l := []) (by kernel_rfl) (by kernel_rfl) rfl (OwnEv.nil _), fun j hj => by omega⟩
    · rintro i4 t4 hi4 ⟨hI4, hnx_i4⟩
      refine W.seq ?_
      refine W.seq ?_
      refine W.region ?_
      refine WO.adv 2 (by kernel_rfl) ?_
      refine WO.opc (fun h => texts_len (K := K) (h := h) (b := nn) (l := l)) (by kernel_rfl) ?_
      refine WO.fin (by kernel_rfl) ?_
      refine W.cond (decide (((i4 : Nat) : Int) < ((l.length : Nat) : Int))) (by kernel_rfl) (fun hb5 => ?_) (fun hb5 => ?_)
      · refine W.sub 36 hb5 (by kernel_rfl) ?_
        refine W.skip ?_
        refine W.seq ?_
        refine W.block ?_
        refine W.seq ?_
        refine W.region ?_
        refine WO.adv 2 (by kernel_rfl) ?_
        refine WO.opc (fun h => texts_at (K := K) (h := h) (b := nn) (l := l) (lt_of_dec hb5)) (by kernel_rfl) ?_
        refine WO.opc (fun h => text_get (K := K) (h := h) (l := l) (lt_of_dec hb5)) (by kernel_rfl) ?_
        refine WO.callp (by kernel_rfl) (refParse2_c (n := m) (by omega) (l.getD i4 []) hK _) ?_
        refine WO.adv 3 (by kernel_rfl) ?_
        refine WO.opk (y := some (.ptrO t4.h.next 0, (t4.h.new 37 true [.int .i64 0, .int .i64 0, .str [], .str [], .int .i64 0, .int .i64 0, .int .i64 0, .str [], .nils, .nils, .int .i64 0]))) rfl (by kernel_rfl) ?_
        refine WO.opk (y := opStore (Cg K) (t4.h.new 37 true [.int .i64 0, .int .i64 0, .str [], .str [], .int .i64 0, .int .i64 0, .int .i64 0, .str [], .nils, .nils, .int .i64 0]) 37 (.ptrO t4.h.next 0) (.agg ((evOf (l.getD i4 [])).elv))) (x := .tup []) (h' := ((t4.h.new 37 true [.int .i64 0, .int .i64 0, .str [], .str [], .int .i64 0, .int .i64 0, .int .i64 0, .str [], .nils, .nils, .int .i64 0]).set t4.h.next (bk t4.h.next 37 true 1 ((evOf (l.getD i4 [])).elv)))) (store_k gnew (by kernel_rfl) (by kernel_rfl)) (by kernel_rfl) ?_
        refine WO.fin (by kernel_rfl) ?_
        refine W.seq ?_
        refine W.seq ?_
        refine W.region ?_
        refine WO.fin (by kernel_rfl) ?_
        refine W.cond ((errOf (l.getD i4 [])) != 0) (by kernel_rfl) (fun hb6 => ?_) (fun hb6 => ?_)
        · refine W.sub 48 hb6 (by kernel_rfl) ?_
          refine W.seq ?_
          refine W.region ?_
          refine WO.adv 4 (by kernel_rfl) ?_
          have hb7 : ((rdC l) == (errOf (l.getD i4 []))) = true := (by rw [(rd_bad hb1 (lt_of_dec hb5) hI4.2 hb6).1]; simp)
          refine WO.sub 51 hb7 (by kernel_rfl) ?_
          refine WO.sub 52 hb7 (by kernel_rfl) ?_
          refine WO.adv 5 (by kernel_rfl) ?_
          have hb8 : ((rdN l) == ((i4 : Nat) : Int)) = true := (by rw [(rd_bad hb1 (lt_of_dec hb5) hI4.2 hb6).2.1]; simp)
          refine WO.sub 55 hb8 (by kernel_rfl) ?_
          refine WO.sub 56 hb8 (by kernel_rfl) ?_
          refine WO.sub 57 hb8 (by kernel_rfl) ?_
          refine WO.adv 1 (by kernel_rfl) ?_
          refine WO.opc (fun h => evs_len (K := K) (h := h) (b := true) (l := (rdE l))) (by kernel_rfl) ?_
          refine WO.fin (by kernel_rfl) ?_
          refine W.ret ?_
          exact RetQ.k (v' := .bool ((((rdE l).length : Nat) : Int) == 0)) (by rw [(rd_bad hb1 (lt_of_dec hb5) hI4.2 hb6).2.2]; rfl) (by kernel_rfl) (by kernel_rfl)
        · refine W.sub 48 hb6 (by kernel_rfl) ?_
          refine W.skip ?_
          refine W.region ?_
          refine WO.adv 1 (by kernel_rfl) ?_
          refine WO.opk (y := keep ((t4.h.new 37 true [.int .i64 0, .int .i64 0, .str [], .str [], .int .i64 0, .int .i64 0, .int .i64 0, .str [], .nils, .nils, .int .i64 0]).set t4.h.next (bk t4.h.next 37 true 1 ((evOf (l.getD i4 [])).elv))) (opLoad (Cg K) ((t4.h.new 37 true [.int .i64 0, .int .i64 0, .str [], .str [], .int .i64 0, .int .i64 0, .int .i64 0, .str [], .nils, .nils, .int .i64 0]).set t4.h.next (bk t4.h.next 37 true 1 ((evOf (l.getD i4 [])).elv))) 37 (.ptrO t4.h.next 0))) (x := .agg ((evOf (l.getD i4 [])).elv)) (h' := ((t4.h.new 37 true [.int .i64 0, .int .i64 0, .str [], .str [], .int .i64 0, .int .i64 0, .int .i64 0, .str [], .nils, .nils, .int .i64 0]).set t4.h.next (bk t4.h.next 37 true 1 ((evOf (l.getD i4 [])).elv)))) (load_k gss (by kernel_rfl)) (by kernel_rfl) ?_
          refine WO.opk (y := some (.slO (Nat.succ t4.h.next) 0 11 1 1 true, (((t4.h.new 37 true [.int .i64 0, .int .i64 0, .str [], .str [], .int .i64 0, .int .i64 0, .int .i64 0, .str [], .nils, .nils, .int .i64 0]).set t4.h.next (bk t4.h.next 37 true 1 ((evOf (l.getD i4 [])).elv))).new 37 true ((evOf (l.getD i4 [])).elv)))) rfl (by kernel_rfl) ?_
          obtain ⟨x9, h9, he9, hO9, hn9⟩ := append_ev (K := K) (h := (((t4.h.new 37 true [.int .i64 0, .int .i64 0, .str [], .str [], .int .i64 0, .int .i64 0, .int .i64 0, .str [], .nils, .nils, .int .i64 0]).set t4.h.next (bk t4.h.next 37 true 1 ((evOf (l.getD i4 [])).elv))).new 37 true ((evOf (l.getD i4 [])).elv))) (v := (t4.v 6)) (l := ((l.take i4).map evOf)) (id := (Nat.succ t4.h.next)) (g := (Nat.succ t4.h.next)) (ver := 0) (e := (evOf (l.getD i4 []))) (OwnEv.new (OwnEv.set (j := t4.h.next) (by omega) (OwnEv.new hI4.1))) (rtake hb1 _) gnew
          refine WO.opk he9 (by kernel_rfl) ?_
          refine WO.fin (by kernel_rfl) ?_
          refine W.region ?_
          refine WO.fin (by kernel_rfl) ?_
          have hlt : i4 < l.length := ((lt_of_dec hb5))
          refine ⟨hlt, ⟨?_, hv_next (h := h9) (by kernel_rfl) (by first | omega | (simp only [nnew, nset]; omega))⟩, ?_⟩
          · exact ⟨OwnEv.at (h := h9) (by kernel_rfl) (by kernel_rfl) (ev_succ hlt).symm (OwnEv.grow hO9), fun j hj => by rcases Nat.lt_succ_iff_lt_or_eq.1 hj with h | rfl; exact hI4.2 j h; exact hb6⟩
          · refine Told.put 7 (wrapA hlt hlen) (by kernel_rfl) ?_
            exact Told.k (by kernel_rfl)
      · refine W.sub 36 hb5 (by kernel_rfl) ?_
        refine W.exit ?_
        refine blockQ ?_
        refine W.seq ?_
        refine W.region ?_
        refine WO.adv 3 (by kernel_rfl) ?_
        have hb10 : ((rdC l) == 0) = true := (by rw [(rd_end hb1 (fun j hj => hI4.2 j (by have := end_eq hi4 hb5; omega))).1]; simp)
        refine WO.sub 67 hb10 (by kernel_rfl) ?_
        refine WO.sub 68 hb10 (by kernel_rfl) ?_
        refine WO.adv 2 (by kernel_rfl) ?_
        refine WO.opc (fun h => texts_len (K := K) (h := h) (b := nn) (l := l)) (by kernel_rfl) ?_
        refine WO.adv 3 (by kernel_rfl) ?_
        have hb11 : ((rdN l) == ((l.length : Nat) : Int)) = true := (by rw [(rd_end hb1 (fun j hj => hI4.2 j (by have := end_eq hi4 hb5; omega))).2.1]; simp)
        refine WO.sub 72 hb11 (by kernel_rfl) ?_
        refine WO.sub 73 hb11 (by kernel_rfl) ?_
        refine WO.sub 74 hb11 (by kernel_rfl) ?_
        refine WO.adv 2 (by kernel_rfl) ?_
        have hA := (rd_end hb1 (fun j hj => hI4.2 j (by have := end_eq hi4 hb5; omega)))
        have hlS : (rdE l).length < big := by rw [hA.2.2, List.length_map]; exact hl
        have hSk : rdE l = ((l.take i4).map evOf) := by rw [hA.2.2, end_eq hi4 hb5, List.take_length]
        refine WO.callh (by kernel_rfl) (by kernel_rfl) (sameEvs2_c (n := m) (d := 4002) (by omega) (l := rdE l) (k := ((l.take i4).map evOf)) (by rw [hA.2.2]; exact evs_dep l) hlS hK hSk hI4.1) ?_
        refine WO.fin (by kernel_rfl) ?_
        refine W.ret ?_
        exact RetQ.k (v' := .bool true) (by rfl) (by kernel_rfl) (by kernel_rfl)

end
end Go.Abs
