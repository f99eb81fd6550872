/- A part of the proof of LogLists: see the last text of this claim. -/
import Derived.Test.YtlehhkleemaloaaGreatDoorB1
namespace Go.Abs
noncomputable section
open Go Go.Proofs
variable {K : Nat}
set_option maxRecDepth 20000 in
theorem eventErrM_c {n : Nat} {d : Nat} (hn : d + 6 ≤ n) (e : Ev) (hd : e.val.dep ≤ d) (hv : e.val.ok) (hK : big ≤ K)  (h : Heap) : (fns (Cg K) n).call 32 [.agg e.elv] h none = some (.val (.int .i64 (evErrM e)) h none) := by
  obtain ⟨m, rfl⟩ : ∃ m, n = m + 1 := ⟨n - 1, by omega⟩
  refine pureq (C := Cg K) (F := fns (Cg K) m) (fn := Tryz.f32) (c := bodyOf Tryz.f32) (by kernel_rfl) (by kernel_rfl) (by kernel_rfl) (noL (aggElv _) rfl) (by kernel_rfl) (by kernel_rfl) (by kernel_rfl) ?_ h
  refine W.seq ?_
  refine W.region ?_
  refine WO.fin (by kernel_rfl) ?_
  refine W.seq ?_
  refine W.seq ?_
  refine W.region ?_
  refine WO.adv 4 (by kernel_rfl) ?_
  refine splitB (decide (e.comp < (-1))) (fun hb1 => ?_) (fun hb1 => ?_)
  · refine WO.sub 6 hb1 (by kernel_rfl) ?_
    refine WO.sub 7 hb1 (by kernel_rfl) ?_
    refine WO.fin (by kernel_rfl) ?_
    refine W.cond true (by kernel_rfl) (fun _ => ?_) (fun h => by cases h)
    refine W.seq ?_
    refine W.region ?_
    refine WO.fin (by kernel_rfl) ?_
    refine W.ret ?_
    exact RetQ.k (v' := .int .i64 3) (by simp only [evErrM, hb1, Bool.false_or, Bool.or_false, Bool.true_or, Bool.or_true, Bool.true_and, Bool.false_and, cond_true, cond_false]) (by kernel_rfl) (by kernel_rfl)
  · refine WO.sub 6 hb1 (by kernel_rfl) ?_
    refine WO.sub 7 hb1 (by kernel_rfl) ?_
    refine WO.adv 5 (by kernel_rfl) ?_
    refine splitB (decide (e.comp ≥ 6)) (fun hb2 => ?_) (fun hb2 => ?_)
    · refine WO.sub 10 hb2 (by kernel_rfl) ?_
      refine WO.sub 11 hb2 (by kernel_rfl) ?_
      refine WO.sub 12 hb2 (by kernel_rfl) ?_
      refine WO.fin (by kernel_rfl) ?_
      refine W.cond true (by kernel_rfl) (fun _ => ?_) (fun h => by cases h)
      refine W.seq ?_
      refine W.region ?_
      refine WO.fin (by kernel_rfl) ?_
      refine W.ret ?_
      exact RetQ.k (v' := .int .i64 3) (by simp only [evErrM, hb1, hb2, Bool.false_or, Bool.or_false, Bool.true_or, Bool.or_true, Bool.true_and, Bool.false_and, cond_true, cond_false]) (by kernel_rfl) (by kernel_rfl)
    · refine WO.sub 10 hb2 (by kernel_rfl) ?_
      refine WO.sub 11 hb2 (by kernel_rfl) ?_
      refine WO.sub 12 hb2 (by kernel_rfl) ?_
      refine WO.adv 2 (by kernel_rfl) ?_
      refine WO.callp (by kernel_rfl) (fits_c (n := m) (by omega) e.other _) ?_
      refine WO.fin (by kernel_rfl) ?_
      refine W.cond (!(isNum e.other)) (by kernel_rfl) (fun hb3 => ?_) (fun hb3 => ?_)
      · refine W.sub 16 hb3 (by kernel_rfl) ?_
        refine W.sub 17 hb3 (by kernel_rfl) ?_
        refine W.seq ?_
        refine W.region ?_
        refine WO.fin (by kernel_rfl) ?_
        refine W.ret ?_
        exact RetQ.k (v' := .int .i64 3) (by simp only [evErrM, hb1, hb2, hb3, Bool.false_or, Bool.or_false, Bool.true_or, Bool.or_true, Bool.true_and, Bool.false_and, cond_true, cond_false]) (by kernel_rfl) (by kernel_rfl)
      · refine W.sub 16 hb3 (by kernel_rfl) ?_
        refine W.sub 17 hb3 (by kernel_rfl) ?_
        refine W.skip ?_
        refine W.seq ?_
        refine W.seq ?_
        refine W.region ?_
        refine WO.adv 4 (by kernel_rfl) ?_
        refine splitB (decide (e.kind < 0)) (fun hb4 => ?_) (fun hb4 => ?_)
        · refine WO.sub 20 hb4 (by kernel_rfl) ?_
          refine WO.sub 21 hb4 (by kernel_rfl) ?_
          refine WO.fin (by kernel_rfl) ?_
          refine W.cond true (by kernel_rfl) (fun _ => ?_) (fun h => by cases h)
          refine W.seq ?_
          refine W.region ?_
          refine WO.fin (by kernel_rfl) ?_
          refine W.ret ?_
          exact RetQ.k (v' := .int .i64 4) (by simp only [evErrM, hb1, hb2, hb3, hb4, Bool.false_or, Bool.or_false, Bool.true_or, Bool.or_true, Bool.true_and, Bool.false_and, cond_true, cond_false]) (by kernel_rfl) (by kernel_rfl)
        · refine WO.sub 20 hb4 (by kernel_rfl) ?_
          refine WO.sub 21 hb4 (by kernel_rfl) ?_
          refine WO.fin (by kernel_rfl) ?_
          refine W.cond (decide (e.kind ≥ 11)) (by kernel_rfl) (fun hb5 => ?_) (fun hb5 => ?_)
          · refine W.sub 24 hb5 (by kernel_rfl) ?_
            refine W.sub 25 hb5 (by kernel_rfl) ?_
            refine W.seq ?_
            refine W.region ?_
            refine WO.fin (by kernel_rfl) ?_
            refine W.ret ?_
            exact RetQ.k (v' := .int .i64 4) (by simp only [evErrM, hb1, hb2, hb3, hb4, hb5, Bool.false_or, Bool.or_false, Bool.true_or, Bool.or_true, Bool.true_and, Bool.false_and, cond_true, cond_false]) (by kernel_rfl) (by kernel_rfl)
          · refine W.sub 24 hb5 (by kernel_rfl) ?_
            refine W.sub 25 hb5 (by kernel_rfl) ?_
            refine W.skip ?_
            refine W.seq ?_
            refine W.region ?_
            refine WO.fin (by kernel_rfl) ?_
            refine W.seq ?_
            refine W.region ?_
            refine WO.adv 3 (by kernel_rfl) ?_
            refine WO.callh (by kernel_rfl) rfl (measure_c hK d e.val hd hv m (by omega) 8 0 false false (i := 1) (g := 1) (ver := 0)  (by kernel_rfl)) ?_
            refine WO.nil ?_
            refine W.seq ?_
            refine W.drawn2 (by kernel_rfl) ?_
            refine WE.adv (j' := 5) 5 (by kernel_rfl) (by kernel_rfl) ?_
            refine splitB (decide (((lenN e.text : Nat) : Int) ≤ 200)) (fun hb6 => ?_) (fun hb6 => ?_)
            · refine WE.sub 35 hb6 (by kernel_rfl) ?_
              refine WE.sub 36 hb6 (by kernel_rfl) ?_
              refine WE.adv (j' := 11) 6 (by kernel_rfl) (by kernel_rfl) ?_
              refine splitB (decide (((lenN e.name : Nat) : Int) ≤ 200)) (fun hb7 => ?_) (fun hb7 => ?_)
              · refine WE.sub 40 hb7 (by kernel_rfl) ?_
                refine WE.sub 41 hb7 (by kernel_rfl) ?_
                refine WE.sub 42 hb7 (by kernel_rfl) ?_
                refine WE.adv (j' := 17) 6 (by kernel_rfl) (by kernel_rfl) ?_
                refine WE.callp (by kernel_rfl) (by kernel_rfl) (unless_c (n := m) (by omega) (!((measV e.val 8 (0, false, false)).2.1)) 2 _) ?_
                refine WE.adv (j' := 23) 5 (by kernel_rfl) (by kernel_rfl) ?_
                refine WE.callp (by kernel_rfl) (by kernel_rfl) (unless_c (n := m) (by omega) (!((measV e.val 8 (0, false, false)).2.2)) 3 _) ?_
                refine WE.adv (j' := 25) 1 (by kernel_rfl) (by kernel_rfl) ?_
                refine WE.callh (by kernel_rfl) (by kernel_rfl) rfl (or_c (n := m) (i := 2) (g := 2) (ver := 0)  (by omega) (bif (!((measV e.val 8 (0, false, false)).2.1)) then 0 else 2) (bif (!((measV e.val 8 (0, false, false)).2.2)) then 0 else 3) hK (by kernel_rfl)) ?_
                refine WE.fin (by kernel_rfl) ?_
                refine W.ret ?_
                exact RetQ.k (v' := .int .i64 (orI (bif (!((measV e.val 8 (0, false, false)).2.1)) then 0 else 2) (bif (!((measV e.val 8 (0, false, false)).2.2)) then 0 else 3))) (by simp only [evErrM, hb1, hb2, hb3, hb4, hb5, hb6, hb7, Bool.false_or, Bool.or_false, Bool.true_or, Bool.or_true, Bool.true_and, Bool.false_and, cond_true, cond_false]) (by kernel_rfl) (by kernel_rfl)
              · refine WE.sub 40 hb7 (by kernel_rfl) ?_
                refine WE.sub 41 hb7 (by kernel_rfl) ?_
                refine WE.sub 42 hb7 (by kernel_rfl) ?_
                refine WE.adv (j' := 17) 6 (by kernel_rfl) (by kernel_rfl) ?_
                refine WE.callp (by kernel_rfl) (by kernel_rfl) (unless_c (n := m) (by omega) false 2 _) ?_
                refine WE.adv (j' := 23) 5 (by kernel_rfl) (by kernel_rfl) ?_
                refine WE.callp (by kernel_rfl) (by kernel_rfl) (unless_c (n := m) (by omega) (!((measV e.val 8 (0, false, false)).2.2)) 3 _) ?_
                refine WE.adv (j' := 25) 1 (by kernel_rfl) (by kernel_rfl) ?_
                refine WE.callh (by kernel_rfl) (by kernel_rfl) rfl (or_c (n := m) (i := 2) (g := 2) (ver := 0)  (by omega) 2 (bif (!((measV e.val 8 (0, false, false)).2.2)) then 0 else 3) hK (by kernel_rfl)) ?_
                refine WE.fin (by kernel_rfl) ?_
                refine W.ret ?_
                exact RetQ.k (v' := .int .i64 (orI 2 (bif (!((measV e.val 8 (0, false, false)).2.2)) then 0 else 3))) (by simp only [evErrM, hb1, hb2, hb3, hb4, hb5, hb6, hb7, Bool.false_or, Bool.or_false, Bool.true_or, Bool.or_true, Bool.true_and, Bool.false_and, cond_true, cond_false]) (by kernel_rfl) (by kernel_rfl)
            · refine WE.sub 35 hb6 (by kernel_rfl) ?_
              refine WE.sub 36 hb6 (by kernel_rfl) ?_
              refine WE.adv (j' := 17) 12 (by kernel_rfl) (by kernel_rfl) ?_
              refine WE.callp (by kernel_rfl) (by kernel_rfl) (unless_c (n := m) (by omega) false 2 _) ?_
              refine WE.adv (j' := 23) 5 (by kernel_rfl) (by kernel_rfl) ?_
              refine WE.callp (by kernel_rfl) (by kernel_rfl) (unless_c (n := m) (by omega) (!((measV e.val 8 (0, false, false)).2.2)) 3 _) ?_
              refine WE.adv (j' := 25) 1 (by kernel_rfl) (by kernel_rfl) ?_
              refine WE.callh (by kernel_rfl) (by kernel_rfl) rfl (or_c (n := m) (i := 2) (g := 2) (ver := 0)  (by omega) 2 (bif (!((measV e.val 8 (0, false, false)).2.2)) then 0 else 3) hK (by kernel_rfl)) ?_
              refine WE.fin (by kernel_rfl) ?_
              refine W.ret ?_
              exact RetQ.k (v' := .int .i64 (orI 2 (bif (!((measV e.val 8 (0, false, false)).2.2)) then 0 else 3))) (by simp only [evErrM, hb1, hb2, hb3, hb4, hb5, hb6, Bool.false_or, Bool.or_false, Bool.true_or, Bool.or_true, Bool.true_and, Bool.false_and, cond_true, cond_false]) (by kernel_rfl) (by kernel_rfl)

theorem logsEventErr_c {n : Nat} {d : Nat} (hn : d + 6 ≤ n) (e : Ev) (hd : e.val.dep ≤ d) (hv : e.val.ok) (hK : big ≤ K) (h : Heap) : (fns (Cg K) n).call 32 [.agg e.elv] h none = some (.val (.int .i64 (evErr e)) h none) := by
  have := eventErrM_c hn e hd hv hK h
  rwa [evErrM_eq] at this
set_option maxRecDepth 20000 in
theorem checkEvents_c {n : Nat} {d : Nat} (hn : d + 7 ≤ n) (nn : Bool) (l : List Ev) (hd : ∀ i, i < l.length → (l.getD i default).val.dep ≤ d ∧ (l.getD i default).val.ok) (hl : l.length < big) (hK : big ≤ K)  (h : Heap) : (fns (Cg K) n).call 9 [(evsA nn l)] h none = some (.val (.tup [.int .i64 (evsErr l).1, .int .i64 (evsErr l).2]) h none) := by
  obtain ⟨m, rfl⟩ : ∃ m, n = m + 1 := ⟨n - 1, by omega⟩
  have hlen : l.length ≤ 9223372036854775807 := by unfold big at hl; omega
  have hlK : l.length < (Cg K).loops := by rw [loops_eq]; omega
  have hrec : ∀ i, i < l.length → ∀ h, (fns (Cg K) m).call 32 [.agg (l.getD i default).elv] h none = some (.val (.int .i64 (evErr (l.getD i default))) h none) := fun i hi h => logsEventErr_c (d := d) (by omega) _ (hd i hi).1 (hd i hi).2 hK h
  refine pureq (C := Cg K) (F := fns (Cg K) m) (fn := Tryz.f9) (c := bodyOf Tryz.f9) (by kernel_rfl) (by kernel_rfl) (by kernel_rfl) (noL (evsD _ _) rfl) (by kernel_rfl) (by kernel_rfl) (by kernel_rfl) ?_ h
  refine W.seq ?_
  refine W.region ?_
  refine WO.fin (by kernel_rfl) ?_
  refine W.seq ?_
  refine W.seq ?_
  refine W.region ?_
  refine WO.adv 1 (by kernel_rfl) ?_
  refine WO.opc (fun h => evs_len (K := K) (h := h) (b := nn) (l := l)) (by kernel_rfl) ?_
  refine WO.fin (by kernel_rfl) ?_
  refine W.cond (decide (((l.length : Nat) : Int) > 60)) (by kernel_rfl) (fun hb1 => ?_) (fun hb1 => ?_)
  · refine W.sub 9 hb1 (by kernel_rfl) ?_
    refine W.seq ?_
    refine W.region ?_
    refine WO.fin (by kernel_rfl) ?_
    refine W.ret ?_
    exact RetQ.k (v' := .tup [.int .i64 0, .int .i64 2]) (by unfold evsErr; simp only [hb1]; rfl) (by kernel_rfl) (by kernel_rfl)
  · refine W.sub 9 hb1 (by kernel_rfl) ?_
    refine W.skip ?_
    refine W.seq ?_
    refine W.seq ?_
    refine W.region ?_
    refine WO.adv 1 (by kernel_rfl) ?_
    refine WO.opc (fun h => evs_len (K := K) (h := h) (b := nn) (l := l)) (by kernel_rfl) ?_
    refine WO.fin (by kernel_rfl) ?_
    refine W.block ?_
    refine W.loopc (len := l.length) (fun i t => (S 24 [some ((evsA nn l)), none, (t.g 2), (t.g 3), (t.g 4), (t.g 5), (t.g 6), some ((evsA nn l)), some (.int .i64 ((l.length : Nat) : Int)), some (.bool false), some ((evsA nn l)), some (.int .i64 ((l.length : Nat) : Int)), some (.int .i64 ((i : Nat) : Int)), (t.g 13), (t.g 14), (t.g 15), (t.g 16), (t.g 17), (t.g 18), (t.g 19), (t.g 20), (t.g 21), (t.g 22), (t.g 23)] t.h)) (fun i t => (∀ j, j < i → evErr (l.getD j default) = 0) ∧ (0 ≤ t.h.next)) hlK ?_ ?_ ?_
    · exact Told.k (by kernel_rfl)
    · refine ⟨?_, hv_next (h := (hpL [])) (by kernel_rfl) (by exact Nat.le_of_ble_eq_true (by kernel_rfl))⟩
      intro j hj; omega
    · rintro i2 t2 hi2 ⟨hI2, hnx_i2⟩
      refine W.seq ?_
      refine W.region ?_
      refine WO.fin (by kernel_rfl) ?_
      refine W.seq ?_
      refine W.cond (decide (((i2 : Nat) : Int) < ((l.length : Nat) : Int))) (by kernel_rfl) (fun hb3 => ?_) (fun hb3 => ?_)
      · refine W.sub 13 hb3 (by kernel_rfl) ?_
        refine W.skip ?_
        refine W.seq ?_
        refine W.block ?_
        refine W.seq ?_
        refine W.region ?_
        refine WO.adv 1 (by kernel_rfl) ?_
        refine WO.opc (fun h => evs_at (K := K) (h := h) (b := nn) (lt_of_dec hb3)) (by kernel_rfl) ?_
        refine WO.opc (fun h => ev_elv (K := K) (h := h) (lt_of_dec hb3)) (by kernel_rfl) ?_
        refine WO.opk (y := some (.ptrO t2.h.next 0, (t2.h.new 37 true [.int .i64 0, .int .i64 0, .str [], .str [], .int .i64 0, .int .i64 0, .int .i64 0, .str [], .nils, .nils, .int .i64 0]))) rfl (by kernel_rfl) ?_
        refine WO.adv 1 (by kernel_rfl) ?_
        refine WO.opk (y := opStore (Cg K) (t2.h.new 37 true [.int .i64 0, .int .i64 0, .str [], .str [], .int .i64 0, .int .i64 0, .int .i64 0, .str [], .nils, .nils, .int .i64 0]) 37 (.ptrO t2.h.next 0) (.agg ((l.getD i2 default).elv))) (x := .tup []) (h' := ((t2.h.new 37 true [.int .i64 0, .int .i64 0, .str [], .str [], .int .i64 0, .int .i64 0, .int .i64 0, .str [], .nils, .nils, .int .i64 0]).set t2.h.next (bk t2.h.next 37 true 1 ((l.getD i2 default).elv)))) (store_k gnew (by kernel_rfl) (by kernel_rfl)) (by kernel_rfl) ?_
        refine WO.nil ?_
        refine W.seq ?_
        refine W.region ?_
        refine WO.opk (y := keep ((t2.h.new 37 true [.int .i64 0, .int .i64 0, .str [], .str [], .int .i64 0, .int .i64 0, .int .i64 0, .str [], .nils, .nils, .int .i64 0]).set t2.h.next (bk t2.h.next 37 true 1 ((l.getD i2 default).elv))) (opLoad (Cg K) ((t2.h.new 37 true [.int .i64 0, .int .i64 0, .str [], .str [], .int .i64 0, .int .i64 0, .int .i64 0, .str [], .nils, .nils, .int .i64 0]).set t2.h.next (bk t2.h.next 37 true 1 ((l.getD i2 default).elv))) 37 (.ptrO t2.h.next 0))) (x := .agg ((l.getD i2 default).elv)) (h' := ((t2.h.new 37 true [.int .i64 0, .int .i64 0, .str [], .str [], .int .i64 0, .int .i64 0, .int .i64 0, .str [], .nils, .nils, .int .i64 0]).set t2.h.next (bk t2.h.next 37 true 1 ((l.getD i2 default).elv)))) (load_k gss (by kernel_rfl)) (by kernel_rfl) ?_
        refine WO.callp (by kernel_rfl) (hrec i2 (lt_of_dec hb3) _) ?_
        refine WO.fin (by kernel_rfl) ?_
        refine W.seq ?_
        refine W.region ?_
        refine WO.fin (by kernel_rfl) ?_
        refine W.cond ((evErr (l.getD i2 default)) != 0) (by kernel_rfl) (fun hb4 => ?_) (fun hb4 => ?_)
        · refine W.sub 20 hb4 (by kernel_rfl) ?_
          refine W.seq ?_
          refine W.region ?_
          refine WO.fin (by kernel_rfl) ?_
          refine W.ret ?_
          exact RetQ.k (v' := .tup [.int .i64 ((i2 : Nat) : Int), .int .i64 (evErr (l.getD i2 default))]) (by unfold evsErr; simp only [hb1, cond_false]; rw [firstErr_at l 0 i2 (lt_of_dec hb3) hI2 (by simpa using hb4), Nat.zero_add]) (by kernel_rfl) (by kernel_rfl)
        · refine W.sub 20 hb4 (by kernel_rfl) ?_
          refine W.skip ?_
          refine W.region ?_
          refine WO.fin (by kernel_rfl) ?_
          have hlt : i2 < l.length := ((lt_of_dec hb3))
          refine ⟨hlt, ⟨?_, hv_next (h := ((t2.h.new 37 true [.int .i64 0, .int .i64 0, .str [], .str [], .int .i64 0, .int .i64 0, .int .i64 0, .str [], .nils, .nils, .int .i64 0]).set t2.h.next (bk t2.h.next 37 true 1 ((l.getD i2 default).elv)))) (by kernel_rfl) (by first | omega | (simp only [nnew, nset]; omega))⟩, ?_⟩
          · intro j hj; rcases Nat.lt_succ_iff_lt_or_eq.1 hj with h | rfl <;> first | exact hI2 j h | exact hb4 | simpa using hb4
          · refine Told.put 12 (wrapA hlt hlen) (by kernel_rfl) ?_
            exact Told.k (by kernel_rfl)
      · refine W.sub 13 hb3 (by kernel_rfl) ?_
        refine W.exit ?_
        refine blockQ ?_
        refine W.seq ?_
        refine W.region ?_
        refine WO.fin (by kernel_rfl) ?_
        refine W.ret ?_
        exact RetQ.k (v' := .tup [.int .i64 0, .int .i64 0]) (by unfold evsErr; simp only [hb1, cond_false]; rw [firstErr_zero l 0 (fun j hj => hI2 j (by have := end_eq hi2 hb3; omega))]) (by kernel_rfl) (by kernel_rfl)

set_option maxRecDepth 20000 in
theorem logsEventsErr_c {n : Nat} {d : Nat} (hn : d + 8 ≤ n) (nn : Bool) (l : List Ev) (hd : ∀ i, i < l.length → (l.getD i default).val.dep ≤ d ∧ (l.getD i default).val.ok) (hl : l.length < big) (hK : big ≤ K)  (h : Heap) : (fns (Cg K) n).call 33 [(evsA nn l)] h none = some (.val (.int .i64 (evsErr l).2) h none) := by
  obtain ⟨m, rfl⟩ : ∃ m, n = m + 1 := ⟨n - 1, by omega⟩
  refine pureq (C := Cg K) (F := fns (Cg K) m) (fn := Tryz.f33) (c := bodyOf Tryz.f33) (by kernel_rfl) (by kernel_rfl) (by kernel_rfl) (noL (evsD _ _) rfl) (by kernel_rfl) (by kernel_rfl) (by kernel_rfl) ?_ h
  refine W.seq ?_
  refine W.region ?_
  refine WO.fin (by kernel_rfl) ?_
  refine W.seq ?_
  refine W.region ?_
  refine WO.adv 1 (by kernel_rfl) ?_
  refine WO.callp (by kernel_rfl) (checkEvents_c (d := d) (by omega) nn l hd hl hK _) ?_
  refine WO.fin (by kernel_rfl) ?_
  refine W.seq ?_
  refine W.region ?_
  refine WO.fin (by kernel_rfl) ?_
  refine W.ret ?_
  exact RetQ.k (v' := .int .i64 ((evsErr l).2)) (by rfl) (by kernel_rfl) (by kernel_rfl)

end
end Go.Abs
namespace Go.Abs
noncomputable section
open Go

/-! ## A slice of one's own that is appended to -/
/-- v is n elements of one's own (of so many cells each): these cells; its block lies below bd -/
def OwnSl (h : Heap) (v : AV) (e size : Nat) (cs : List AV) (n bd : Nat) : Prop :=
  bd ≤ h.next ∧ ((v = .nils ∧ n = 0 ∧ cs = []) ∨ ∃ id b, v = .slO id 0 size n n false ∧ id < bd ∧ h.get id = some b ∧ b.cells = cs ∧ b.frz = false ∧ b.kind = .row ∧ b.el = e ∧ cs.length = n * size ∧ 0 < n)
def St.v (s : St) (k : Nat) : AV := match s.tm.get k with | some v => v | none => .dead

section
variable {h h' : Heap} {v x : AV} {e size n bd bytes : Nat} {cs nw : List AV} {s : St}
theorem OwnSl.nil (h : Heap) (e size : Nat) : OwnSl h .nils e size [] 0 h.next := ⟨Nat.le_refl _, .inl ⟨rfl, rfl, rfl⟩⟩
theorem OwnSl.new {el : Nat} {wh : Bool} {c : List AV} (O : OwnSl h v e size cs n bd) : OwnSl (h.new el wh c) v e size cs n bd := by
  obtain ⟨hb, O⟩ := O
  refine ⟨Nat.le_succ_of_le hb, ?_⟩
  rcases O with O | ⟨id, b, h1, h2, h3, h4⟩
  · exact .inl O
  · exact .inr ⟨id, b, h1, h2, by unfold Heap.new; rw [Heap.get_add, if_neg (by omega)]; exact h3, h4⟩
theorem OwnSl.set {j : Nat} {b' : Blk} (hj : bd ≤ j) (O : OwnSl h v e size cs n bd) : OwnSl (h.set j b') v e size cs n bd := by
  obtain ⟨hb, O⟩ := O
  refine ⟨hb, ?_⟩
  rcases O with O | ⟨id, b, h1, h2, h3, h4⟩
  · exact .inl O
  · exact .inr ⟨id, b, h1, h2, by rw [Heap.get_set, if_neg (by omega)]; exact h3, h4⟩
theorem OwnSl.at {k : Nat} (he : s.h = h) (hv : s.v k = x) (O : OwnSl h x e size cs n h.next) : OwnSl s.h (s.v k) e size cs n s.h.next := by
  subst he; subst hv; exact O
theorem OwnSl.grow (O : OwnSl h v e size cs n bd) : OwnSl h v e size cs n h.next := by
  obtain ⟨hb, O⟩ := O
  refine ⟨Nat.le_refl _, ?_⟩
  rcases O with O | ⟨id, b, h1, h2, h3⟩
  · exact .inl O
  · exact .inr ⟨id, b, h1, by omega, h3⟩

theorem append_own (O : OwnSl h v e size cs n bd) (hx : lenA x = some 1) (hf : firstA h size 1 x = some nw) (hl : nw.length = size) (hr : roomOk (n + 1) bytes = true) :
    ∃ v' h', appendA h e size bytes v x = some (v', h') ∧ OwnSl h' v' e size (cs ++ nw) (n + 1) h'.next ∧ h.next ≤ h'.next := by
  obtain ⟨hb, O⟩ := O
  rcases O with ⟨rfl, rfl, rfl⟩ | ⟨id, b, rfl, h2, h3, rfl, h5, h6, rfl, h8, h9⟩
  · refine ⟨.slO h.next 0 size 1 1 false, h.new e false nw, ?_, ⟨Nat.le_refl _, .inr ⟨h.next, newBlk h.next e false nw, rfl, Nat.lt_succ_self _, ?_, rfl, rfl, rfl, rfl, by simpa using hl, by omega⟩⟩, Nat.le_succ _⟩
    · unfold appendA
      rw [hx]
      simp only [hf]
      rw [show roomOk 1 bytes = true from hr]
      rfl
    · unfold Heap.new; rw [Heap.get_add, if_pos rfl]
  · have hA : appendA h b.el size bytes (.slO id 0 size n n false) x = appendFork h id 0 n size 1 b (b.cells ++ nw) := by
      unfold appendA
      rw [hx]
      simp only [hf]
      unfold appendO
      rw [show Nat.beq size size = true from Nat.beq_refl _]
      simp only [Bool.not_true, cond_false]
      have hn : Nat.ble (Nat.add n 1) n = false := by
        cases hh : Nat.ble (Nat.add n 1) n with
        | false => rfl
        | true => have : n + 1 ≤ n := Nat.le_of_ble_eq_true hh; omega
      rw [hn]
      simp only [cond_false]
      rw [show roomOk (Nat.add n 1) bytes = true from hr]
      simp only [Bool.not_true, cond_false]
      have hc : cellsAt h id 0 (Nat.mul n size) = some b.cells := by
        unfold cellsAt
        rw [h3]
        simp only [h6]
        show (bif true then partN b.cells 0 (n * size) else none) = _
        unfold partN
        simp only [cond_true, lenN_eq, takeN_eq, dropN_eq]
        rw [show Nat.ble (Nat.add 0 (n * size)) b.cells.length = true from Nat.ble_eq_true_of_le (by rw [h8]; show 0 + n * size ≤ _; omega)]
        simp [← h8]
      rw [hc]
      simp only [h3, h5, Bool.false_or]
      rw [show Nat.beq b.el b.el = true from Nat.beq_refl _]
      rfl
    refine ⟨_, _, hA, ⟨Nat.le_refl _, .inr ⟨h.next, { cells := b.cells ++ nw, grp := b.grp, base := Nat.add b.base 0, forked := true, frz := false, ver := 0, el := b.el, whole := false, kind := .row }, rfl, ?_, ?_, rfl, rfl, rfl, rfl, ?_, Nat.succ_pos _⟩⟩, ?_⟩
    · simp
    · rw [Heap.get_add, if_pos (by simp)]
    · rw [List.length_append, h8, hl, Nat.succ_mul]
    · simp
theorem freezeL_same {f : AV → Option AV} : ∀ l : List AV, (∀ c ∈ l, f c = some c) → freezeL f l = some l
  | [], _ => rfl
  | c :: l, hf => by
    rw [freezeL_cons, hf c (List.mem_cons_self ..), freezeL_same l fun x hx => hf x (List.mem_cons_of_mem _ hx)]
theorem freeze_own {k : Nat} (O : OwnSl h v e size cs n bd) (hf : ∀ c ∈ cs, freezeA h k c = some c) : freezeA h (k + 1) v = some (sliceA true cs n) := by
  obtain ⟨hb, O⟩ := O
  rcases O with ⟨rfl, rfl, rfl⟩ | ⟨id, b, rfl, h2, h3, rfl, h5, h6, rfl, h8, h9⟩
  · rfl
  · rw [freezeA_succ]
    simp only
    have hc : cellsAt h id 0 (Nat.mul n size) = some b.cells := by
      unfold cellsAt
      rw [h3]
      simp only [h6]
      show (bif true then partN b.cells 0 (n * size) else none) = _
      unfold partN
      simp only [cond_true, lenN_eq, takeN_eq, dropN_eq]
      rw [show Nat.ble (Nat.add 0 (n * size)) b.cells.length = true from Nat.ble_eq_true_of_le (by rw [h8]; show 0 + n * size ≤ _; omega)]
      simp [← h8]
    rw [hc]
    simp only [freezeL_same _ hf]
    cases n with
    | zero => omega
    | succ n => rfl
end

/-! ## The verdict that events tell, and the events of a component -/
def okV (e : Ev) : Bool := e.kind != 3 || withinB e.other 0 4
def stepV (e : Ev) (w : Int) : Int := bif e.kind != 3 then w else bif decide (e.other > w) then e.other else w
def verd : List Ev → Int → Int × Int
  | [], w => (w, 0)
  | e :: l, w => bif okV e then verd l (stepV e w) else (0, 21)
def verdW : List Ev → Nat → Int → Int
  | _, 0, w => w
  | [], _ + 1, w => w
  | e :: l, i + 1, w => verdW l i (stepV e w)
theorem verdW_succ : ∀ (l : List Ev) (i : Nat) (w : Int), i < l.length → verdW l (i + 1) w = stepV (l.getD i default) (verdW l i w)
  | [], i, w, h => by cases h
  | e :: l, 0, w, _ => by cases l <;> rfl
  | e :: l, i + 1, w, h => by
    show verdW l (i + 1) (stepV e w) = stepV (l.getD i default) (verdW l i (stepV e w))
    exact verdW_succ l i _ (by simpa using h)
theorem verd_bad : ∀ (l : List Ev) (i : Nat) (w : Int), i < l.length → (∀ j, j < i → okV (l.getD j default) = true) → okV (l.getD i default) = false → verd l w = (0, 21)
  | [], i, w, h, _, _ => by cases h
  | e :: l, 0, w, _, _, h => by
    have h : okV e = false := h
    rw [verd, h]; rfl
  | e :: l, i + 1, w, hi, h0, h => by
    have h1 : okV e = true := h0 0 (by omega)
    rw [verd, h1]
    exact verd_bad l i _ (by simpa using hi) (fun j hj => h0 (j + 1) (by omega)) h
theorem verd_end : ∀ (l : List Ev) (w : Int), (∀ j, j < l.length → okV (l.getD j default) = true) → verd l w = (verdW l l.length w, 0)
  | [], w, _ => rfl
  | e :: l, w, h0 => by
    have h1 : okV e = true := h0 0 (by simp)
    rw [verd, h1]
    exact verd_end l _ fun j hj => h0 (j + 1) (by simpa using hj)
def partL (l : List Ev) (c : Int) : List Ev := l.filter fun e => e.comp == c
theorem part_len (l : List Ev) (c : Int) : (partL l c).length ≤ l.length := List.length_filter_le _ _
theorem part_yes (l : List Ev) (c : Int) (i : Nat) (hi : i < l.length) (h : ((l.getD i default).comp == c) = true) : partL (l.take (i + 1)) c = partL (l.take i) c ++ [l.getD i default] := by
  unfold partL
  rw [List.take_add_one, List.getElem?_eq_getElem hi, Option.toList_some, List.filter_append]
  rw [List.getD_eq_getElem?_getD, List.getElem?_eq_getElem hi, Option.getD_some] at h ⊢
  simp [h]
theorem part_no (l : List Ev) (c : Int) (i : Nat) (hi : i < l.length) (h : ((l.getD i default).comp == c) = false) : partL (l.take (i + 1)) c = partL (l.take i) c := by
  unfold partL
  rw [List.take_add_one, List.getElem?_eq_getElem hi, Option.toList_some, List.filter_append]
  rw [List.getD_eq_getElem?_getD, List.getElem?_eq_getElem hi, Option.getD_some] at h
  simp [h]
/-- so many events as one's own slice -/
def OwnEv (h : Heap) (v : AV) (l : List Ev) (bd : Nat) : Prop := OwnSl h v 37 11 (l.flatMap Ev.cells) l.length bd
theorem OwnEv.nil (h : Heap) : OwnEv h .nils [] h.next := OwnSl.nil h 37 11
theorem OwnEv.freeze {h : Heap} {v : AV} {l : List Ev} {bd k : Nat} (O : OwnEv h v l bd) : freezeA h (k + 2) v = some (evsA true l) := by
  refine freeze_own O fun c hc => ?_
  obtain ⟨e, _, he⟩ := List.mem_flatMap.1 hc
  rw [ev_cells] at he
  have key : ∀ (b : Bool) (cs : List AV) (n : Nat), freezeA h (k + 1) (sliceA b cs n) = some (sliceA b cs n) := by
    intro b cs n
    cases n with
    | zero => cases b <;> rfl
    | succ n => rfl
  simp only [List.mem_cons, List.not_mem_nil, or_false] at he
  rcases he with rfl | rfl | rfl | rfl | rfl | rfl | rfl | rfl | rfl | rfl | rfl <;> first | rfl | exact key _ _ _
theorem append_ev {K : Nat} {h : Heap} {v : AV} {l : List Ev} {bd id g ver : Nat} {e : Ev} (O : OwnEv h v l bd) (hl : l.length ≤ 60) (hg : h.get id = some (bk g 37 true ver e.elv)) :
    ∃ v' h', builtinA (Cg K) h .append #[22, 22] [v, .slO id 0 11 1 1 true] = some (v', h') ∧ OwnEv h' v' (l ++ [e]) h'.next ∧ h.next ≤ h'.next := by
  have hf : firstA h 11 1 (.slO id 0 11 1 1 true) = some e.elv := by
    show cellsAt h id 0 (Nat.mul 1 11) = _
    unfold cellsAt
    rw [hg]; rfl
  have hb : bytesT (Cg K) 37 = 144 := by kernel_rfl
  obtain ⟨v', h', h1, h2, h3⟩ := append_own (bytes := 144) O rfl hf rfl (by
    show (Nat.ble (Nat.mul (l.length + 1) 144) 70368744177664 && Nat.ble (l.length + 1) 4611686018427387904) = true
    rw [Bool.and_eq_true]
    exact ⟨Nat.ble_eq_true_of_le (show (l.length + 1) * 144 ≤ _ by omega), Nat.ble_eq_true_of_le (by omega)⟩)
  refine ⟨v', h', ?_, ?_, h3⟩
  · have : builtinA (Cg K) h .append #[22, 22] [v, .slO id 0 11 1 1 true] = appendA h 37 11 144 v (.slO id 0 11 1 1 true) := by kernel_rfl
    rw [this]; exact h1
  · have e1 : (l ++ [e]).flatMap Ev.cells = l.flatMap Ev.cells ++ e.elv := by simp [List.flatMap_append, ev_cells]; rfl
    unfold OwnEv
    rw [e1, List.length_append]
    exact h2
theorem evs_field {K : Nat} {h : Heap} {l : List Ev} {i k z : Nat} {x : AV} (t : Nat) (hz : sizeT (Cg K) t = 1) (hm : mkT (Cg K) t [x] = some x) (hi : i < l.length) (hx : (l.getD i default).elv[k]? = some x) (hk : z = Nat.add (Nat.add 0 (Nat.mul i 11)) k) :
    keep h (opLoad (Cg K) h t (.ptrR (l.flatMap Ev.cells) z)) = some (x, h) := by
  subst hk
  have hp : partN (l.flatMap Ev.cells) (Nat.add (Nat.add 0 (Nat.mul i 11)) k) 1 = some [x] := by
    have h0 := part_of ev_len l i (l.getD i default) (by rw [List.getD_eq_getElem?_getD, List.getElem?_eq_getElem hi]; rfl)
    have hk : k < 11 := by
      have := (List.getElem?_eq_some_iff.1 hx).1
      exact this
    rw [ev_cells] at h0
    change partN _ _ _ = some (l.getD i default).elv at h0
    unfold partN at h0 ⊢
    simp only [lenN_eq, takeN_eq, dropN_eq] at h0 ⊢
    cases hb : Nat.ble (Nat.add (Nat.add 0 (Nat.mul i 11)) 11) (l.flatMap Ev.cells).length with
    | false => rw [hb] at h0; cases h0
    | true =>
      rw [hb] at h0
      have hle := Nat.le_of_ble_eq_true hb
      simp only [cond_true, Option.some.injEq] at h0
      have hle2 : Nat.add (Nat.add (Nat.add 0 (Nat.mul i 11)) k) 1 ≤ (l.flatMap Ev.cells).length := by
        change Nat.add 0 (Nat.mul i 11) + 11 ≤ _ at hle
        show Nat.add 0 (Nat.mul i 11) + k + 1 ≤ _
        omega
      rw [show Nat.ble (Nat.add (Nat.add (Nat.add 0 (Nat.mul i 11)) k) 1) (l.flatMap Ev.cells).length = true from Nat.ble_eq_true_of_le hle2]
      simp only [cond_true, Option.some.injEq]
      rw [← h0, List.getElem?_take, if_pos hk, List.getElem?_drop] at hx
      change (l.flatMap Ev.cells)[Nat.add 0 (Nat.mul i 11) + k]? = some x at hx
      show ((l.flatMap Ev.cells).drop (Nat.add 0 (Nat.mul i 11) + k)).take 1 = [x]
      generalize Nat.add 0 (Nat.mul i 11) + k = q at hx ⊢
      obtain ⟨hq, hxx⟩ := List.getElem?_eq_some_iff.1 hx
      rw [List.drop_eq_getElem_cons hq, hxx]; rfl
  unfold opLoad readAt
  rw [hz]
  simp only [hp]
  rw [hm]; rfl
section
variable {K : Nat} {h : Heap} {l : List Ev} {i : Nat}
theorem ev_comp (hi : i < l.length) : keep h (opLoad (Cg K) h 3 (.ptrR (l.flatMap Ev.cells) (Nat.add (Nat.add 0 (Nat.mul i 11)) 0))) = some (.int .i64 (l.getD i default).comp, h) := evs_field 3 (by kernel_rfl) (by kernel_rfl) hi rfl rfl
theorem ev_kind (hi : i < l.length) : keep h (opLoad (Cg K) h 3 (.ptrR (l.flatMap Ev.cells) (Nat.add (Nat.add 0 (Nat.mul i 11)) 1))) = some (.int .i64 (l.getD i default).kind, h) := evs_field 3 (by kernel_rfl) (by kernel_rfl) hi rfl rfl
theorem ev_other (hi : i < l.length) : keep h (opLoad (Cg K) h 3 (.ptrR (l.flatMap Ev.cells) (Nat.add (Nat.add 0 (Nat.mul i 11)) 10))) = some (.int .i64 (l.getD i default).other, h) := evs_field 3 (by kernel_rfl) (by kernel_rfl) hi rfl rfl
end
end
end Go.Abs
namespace Go.Abs
noncomputable section
open Go Go.Proofs
variable {K : Nat}
def verdictIn (l : List Ev) : Int × Int := bif (evsErr l).2 != 0 then (0, (evsErr l).2) else verd l 0
theorem verdW_zero (l : List Ev) (w : Int) : verdW l 0 w = w := by cases l <;> rfl
theorem okV_skip {e : Ev} (h : (e.kind != 3) = true) : okV e = true := by unfold okV; rw [h]; rfl
theorem okV_in {e : Ev} (h : withinB e.other 0 4 = true) : okV e = true := by unfold okV; rw [h, Bool.or_true]
theorem okV_in2 {e : Ev} (h1 : decide (e.other < 0) = false) (h2 : decide (e.other ≥ 5) = false) : okV e = true := okV_in (by unfold withinB; simp at h1 h2 ⊢; omega)
theorem okV_not {e : Ev} (h : (e.kind != 3) = false) (h1 : withinB e.other 0 4 = false) : okV e = false := by unfold okV; rw [h, h1]; rfl
theorem okV_notl {e : Ev} (h : (e.kind != 3) = false) (h1 : decide (e.other < 0) = true) : okV e = false := okV_not h (by unfold withinB; simp at h1 ⊢; omega)
theorem okV_notg {e : Ev} (h : (e.kind != 3) = false) (h1 : decide (e.other ≥ 5) = true) : okV e = false := okV_not h (by unfold withinB; simp at h1 ⊢; omega)
theorem stepV_skip {e : Ev} {w : Int} (h : (e.kind != 3) = true) : stepV e w = w := by unfold stepV; rw [h]; rfl
theorem stepV_in {e : Ev} {w : Int} (h : (e.kind != 3) = false) : stepV e w = bif decide (e.other > w) then e.other else w := by unfold stepV; rw [h]; rfl
set_option maxRecDepth 20000 in
theorem verdictIn_c {n : Nat} {d : Nat} (hn : d + 9 ≤ n) (nn : Bool) (l : List Ev) (hd : ∀ i, i < l.length → (l.getD i default).val.dep ≤ d ∧ (l.getD i default).val.ok) (hl : l.length < big) (hK : big ≤ K)  (h : Heap) : (fns (Cg K) n).call 15 [(evsA nn l)] h none = some (.val (.tup [.int .i64 (verdictIn l).1, .int .i64 (verdictIn l).2]) h none) := by
  obtain ⟨m, rfl⟩ : ∃ m, n = m + 1 := ⟨n - 1, by omega⟩
  have hlen : l.length ≤ 9223372036854775807 := by unfold big at hl; omega
  have hlK : l.length < (Cg K).loops := by rw [loops_eq]; omega
  refine pureq (C := Cg K) (F := fns (Cg K) m) (fn := Tryz.f15) (c := bodyOf Tryz.f15) (by kernel_rfl) (by kernel_rfl) (by kernel_rfl) (noL (evsD _ _) rfl) (by kernel_rfl) (by kernel_rfl) (by kernel_rfl) ?_ h
  refine W.seq ?_
  refine W.region ?_
  refine WO.fin (by kernel_rfl) ?_
  refine W.seq ?_
  refine W.seq ?_
  refine W.region ?_
  refine WO.adv 1 (by kernel_rfl) ?_
  refine WO.callp (by kernel_rfl) (logsEventsErr_c (d := d) (by omega) nn l hd hl hK _) ?_
  refine WO.fin (by kernel_rfl) ?_
  refine W.seq ?_
  refine W.region ?_
  refine WO.fin (by kernel_rfl) ?_
  refine W.cond ((evsErr l).2 != 0) (by kernel_rfl) (fun hb1 => ?_) (fun hb1 => ?_)
  · refine W.sub 11 hb1 (by kernel_rfl) ?_
    refine W.seq ?_
    refine W.region ?_
    refine WO.fin (by kernel_rfl) ?_
    refine W.ret ?_
    exact RetQ.k (v' := .tup [.int .i64 0, .int .i64 ((evsErr l).2)]) (by unfold verdictIn; rw [hb1]; rfl) (by kernel_rfl) (by kernel_rfl)
  · refine W.sub 11 hb1 (by kernel_rfl) ?_
    refine W.skip ?_
    refine W.seq ?_
    refine W.region ?_
    refine WO.fin (by kernel_rfl) ?_
    refine W.seq ?_
    refine W.seq ?_
    refine W.region ?_
    refine WO.adv 1 (by kernel_rfl) ?_
    refine WO.opc (fun h => evs_len (K := K) (h := h) (b := nn) (l := l)) (by kernel_rfl) ?_
    refine WO.fin (by kernel_rfl) ?_
    refine W.block ?_
    refine W.loopc (len := l.length) (fun i t => (S 36 [some ((evsA nn l)), none, (t.g 2), (t.g 3), some (.int .i64 ((evsErr l).2)), some (.int .i64 (verdW l i 0)), none, (t.g 7), some ((evsA nn l)), some (.int .i64 ((evsErr l).2)), some (.int .i64 ((evsErr l).2)), some (.bool false), none, some ((evsA nn l)), some (.int .i64 ((l.length : Nat) : Int)), some (.int .i64 ((i : Nat) : Int)), (t.g 16), (t.g 17), (t.g 18), (t.g 19), (t.g 20), (t.g 21), (t.g 22), (t.g 23), (t.g 24), (t.g 25), (t.g 26), (t.g 27), (t.g 28), (t.g 29), (t.g 30), (t.g 31), (t.g 32), (t.g 33), (t.g 34), none] t.h)) (fun i t => (∀ j, j < i → okV (l.getD j default) = true) ∧ (0 ≤ t.h.next)) hlK ?_ ?_ ?_
    · refine Told.put 5 (congrArg (AV.int .i64) (verdW_zero l 0).symm) (by kernel_rfl) ?_; exact Told.k (by kernel_rfl)
    · refine ⟨?_, hv_next (h := (hpL [])) (by kernel_rfl) (by exact Nat.le_of_ble_eq_true (by kernel_rfl))⟩
      intro j hj; omega
    · rintro i2 t2 hi2 ⟨hI2, hnx_i2⟩
      refine W.seq ?_
      refine W.region ?_
      refine WO.fin (by kernel_rfl) ?_
      refine W.seq ?_
      refine W.cond (decide (((i2 : Nat) : Int) < ((l.length : Nat) : Int))) (by kernel_rfl) (fun hb3 => ?_) (fun hb3 => ?_)
      · refine W.sub 16 hb3 (by kernel_rfl) ?_
        refine W.skip ?_
        refine W.seq ?_
        refine W.block ?_
        refine W.seq ?_
        refine W.region ?_
        refine WO.opc (fun h => evs_at (K := K) (h := h) (b := nn) (lt_of_dec hb3)) (by kernel_rfl) ?_
        refine WO.opc (fun h => ev_elv (K := K) (h := h) (lt_of_dec hb3)) (by kernel_rfl) ?_
        refine WO.opk (y := some (.ptrO t2.h.next 0, (t2.h.new 37 true [.int .i64 0, .int .i64 0, .str [], .str [], .int .i64 0, .int .i64 0, .int .i64 0, .str [], .nils, .nils, .int .i64 0]))) rfl (by kernel_rfl) ?_
        refine WO.opk (y := opStore (Cg K) (t2.h.new 37 true [.int .i64 0, .int .i64 0, .str [], .str [], .int .i64 0, .int .i64 0, .int .i64 0, .str [], .nils, .nils, .int .i64 0]) 37 (.ptrO t2.h.next 0) (.agg ((l.getD i2 default).elv))) (x := .tup []) (h' := ((t2.h.new 37 true [.int .i64 0, .int .i64 0, .str [], .str [], .int .i64 0, .int .i64 0, .int .i64 0, .str [], .nils, .nils, .int .i64 0]).set t2.h.next (bk t2.h.next 37 true 1 ((l.getD i2 default).elv)))) (store_k gnew (by kernel_rfl) (by kernel_rfl)) (by kernel_rfl) ?_
        refine WO.nil ?_
        refine W.seq ?_
        refine W.seq ?_
        refine W.region ?_
        refine WO.adv 1 (by kernel_rfl) ?_
        refine WO.opk (y := keep ((t2.h.new 37 true [.int .i64 0, .int .i64 0, .str [], .str [], .int .i64 0, .int .i64 0, .int .i64 0, .str [], .nils, .nils, .int .i64 0]).set t2.h.next (bk t2.h.next 37 true 1 ((l.getD i2 default).elv))) (opLoad (Cg K) ((t2.h.new 37 true [.int .i64 0, .int .i64 0, .str [], .str [], .int .i64 0, .int .i64 0, .int .i64 0, .str [], .nils, .nils, .int .i64 0]).set t2.h.next (bk t2.h.next 37 true 1 ((l.getD i2 default).elv))) 3 (.ptrO t2.h.next 1))) (x := .int .i64 ((l.getD i2 default).kind)) (h' := ((t2.h.new 37 true [.int .i64 0, .int .i64 0, .str [], .str [], .int .i64 0, .int .i64 0, .int .i64 0, .str [], .nils, .nils, .int .i64 0]).set t2.h.next (bk t2.h.next 37 true 1 ((l.getD i2 default).elv)))) (load_k gss (by kernel_rfl)) (by kernel_rfl) ?_
        refine WO.fin (by kernel_rfl) ?_
        refine W.cond ((l.getD i2 default).kind != 3) (by kernel_rfl) (fun hb4 => ?_) (fun hb4 => ?_)
        · refine W.sub 21 hb4 (by kernel_rfl) ?_
          refine W.exit ?_
          refine blockQ ?_
          refine W.region ?_
          refine WO.fin (by kernel_rfl) ?_
          have hlt : i2 < l.length := ((lt_of_dec hb3))
          refine ⟨hlt, ⟨?_, hv_next (h := ((t2.h.new 37 true [.int .i64 0, .int .i64 0, .str [], .str [], .int .i64 0, .int .i64 0, .int .i64 0, .str [], .nils, .nils, .int .i64 0]).set t2.h.next (bk t2.h.next 37 true 1 ((l.getD i2 default).elv)))) (by kernel_rfl) (by first | omega | (simp only [nnew, nset]; omega))⟩, ?_⟩
          · intro j hj; rcases Nat.lt_succ_iff_lt_or_eq.1 hj with h | rfl; exact hI2 j h; exact (okV_skip hb4)
          · refine Told.put 15 (wrapA hlt hlen) (by kernel_rfl) ?_
            refine Told.put 5 (congrArg (AV.int .i64) (show _ = verdW l (i2 + 1) 0 by rw [verdW_succ l i2 0 hlt, stepV_skip hb4])) (by kernel_rfl) ?_
            exact Told.k (by kernel_rfl)
        · refine W.sub 21 hb4 (by kernel_rfl) ?_
          refine W.skip ?_
          refine W.seq ?_
          refine W.seq ?_
          refine W.region ?_
          refine WO.adv 1 (by kernel_rfl) ?_
          refine WO.opk (y := keep ((t2.h.new 37 true [.int .i64 0, .int .i64 0, .str [], .str [], .int .i64 0, .int .i64 0, .int .i64 0, .str [], .nils, .nils, .int .i64 0]).set t2.h.next (bk t2.h.next 37 true 1 ((l.getD i2 default).elv))) (opLoad (Cg K) ((t2.h.new 37 true [.int .i64 0, .int .i64 0, .str [], .str [], .int .i64 0, .int .i64 0, .int .i64 0, .str [], .nils, .nils, .int .i64 0]).set t2.h.next (bk t2.h.next 37 true 1 ((l.getD i2 default).elv))) 3 (.ptrO t2.h.next 10))) (x := .int .i64 ((l.getD i2 default).other)) (h' := ((t2.h.new 37 true [.int .i64 0, .int .i64 0, .str [], .str [], .int .i64 0, .int .i64 0, .int .i64 0, .str [], .nils, .nils, .int .i64 0]).set t2.h.next (bk t2.h.next 37 true 1 ((l.getD i2 default).elv)))) (load_k gss (by kernel_rfl)) (by kernel_rfl) ?_
          refine WO.adv 2 (by kernel_rfl) ?_
          refine splitB (decide ((l.getD i2 default).other < 0)) (fun hb5 => ?_) (fun hb5 => ?_)
          · refine WO.sub 24 hb5 (by kernel_rfl) ?_
            refine WO.sub 25 hb5 (by kernel_rfl) ?_
            refine WO.fin (by kernel_rfl) ?_
            refine W.cond true (by kernel_rfl) (fun _ => ?_) (fun h => by cases h)
            refine W.seq ?_
            refine W.region ?_
            refine WO.fin (by kernel_rfl) ?_
            refine W.ret ?_
            exact RetQ.k (v' := .tup [.int .i64 0, .int .i64 21]) (by unfold verdictIn; rw [hb1]; simp only [cond_false]; rw [verd_bad l i2 0 (lt_of_dec hb3) hI2 (okV_notl hb4 hb5)]) (by kernel_rfl) (by kernel_rfl)
          · refine WO.sub 24 hb5 (by kernel_rfl) ?_
            refine WO.sub 25 hb5 (by kernel_rfl) ?_
            refine WO.adv 1 (by kernel_rfl) ?_
            refine WO.opk (y := keep ((t2.h.new 37 true [.int .i64 0, .int .i64 0, .str [], .str [], .int .i64 0, .int .i64 0, .int .i64 0, .str [], .nils, .nils, .int .i64 0]).set t2.h.next (bk t2.h.next 37 true 1 ((l.getD i2 default).elv))) (opLoad (Cg K) ((t2.h.new 37 true [.int .i64 0, .int .i64 0, .str [], .str [], .int .i64 0, .int .i64 0, .int .i64 0, .str [], .nils, .nils, .int .i64 0]).set t2.h.next (bk t2.h.next 37 true 1 ((l.getD i2 default).elv))) 3 (.ptrO t2.h.next 10))) (x := .int .i64 ((l.getD i2 default).other)) (h' := ((t2.h.new 37 true [.int .i64 0, .int .i64 0, .str [], .str [], .int .i64 0, .int .i64 0, .int .i64 0, .str [], .nils, .nils, .int .i64 0]).set t2.h.next (bk t2.h.next 37 true 1 ((l.getD i2 default).elv)))) (load_k gss (by kernel_rfl)) (by kernel_rfl) ?_
            refine WO.fin (by kernel_rfl) ?_
            refine W.cond (decide ((l.getD i2 default).other ≥ 5)) (by kernel_rfl) (fun hb6 => ?_) (fun hb6 => ?_)
            · refine W.sub 28 hb6 (by kernel_rfl) ?_
              refine W.sub 29 hb6 (by kernel_rfl) ?_
              refine W.seq ?_
              refine W.region ?_
              refine WO.fin (by kernel_rfl) ?_
              refine W.ret ?_
              exact RetQ.k (v' := .tup [.int .i64 0, .int .i64 21]) (by unfold verdictIn; rw [hb1]; simp only [cond_false]; rw [verd_bad l i2 0 (lt_of_dec hb3) hI2 (okV_notg hb4 hb6)]) (by kernel_rfl) (by kernel_rfl)
            · refine W.sub 28 hb6 (by kernel_rfl) ?_
              refine W.sub 29 hb6 (by kernel_rfl) ?_
              refine W.skip ?_
              refine W.region ?_
              refine WO.adv 2 (by kernel_rfl) ?_
              refine WO.opk (y := keep ((t2.h.new 37 true [.int .i64 0, .int .i64 0, .str [], .str [], .int .i64 0, .int .i64 0, .int .i64 0, .str [], .nils, .nils, .int .i64 0]).set t2.h.next (bk t2.h.next 37 true 1 ((l.getD i2 default).elv))) (opLoad (Cg K) ((t2.h.new 37 true [.int .i64 0, .int .i64 0, .str [], .str [], .int .i64 0, .int .i64 0, .int .i64 0, .str [], .nils, .nils, .int .i64 0]).set t2.h.next (bk t2.h.next 37 true 1 ((l.getD i2 default).elv))) 3 (.ptrO t2.h.next 10))) (x := .int .i64 ((l.getD i2 default).other)) (h' := ((t2.h.new 37 true [.int .i64 0, .int .i64 0, .str [], .str [], .int .i64 0, .int .i64 0, .int .i64 0, .str [], .nils, .nils, .int .i64 0]).set t2.h.next (bk t2.h.next 37 true 1 ((l.getD i2 default).elv)))) (load_k gss (by kernel_rfl)) (by kernel_rfl) ?_
              refine WO.fin (by kernel_rfl) ?_
              refine W.region ?_
              refine WO.fin (by kernel_rfl) ?_
              have hlt : i2 < l.length := ((lt_of_dec hb3))
              refine ⟨hlt, ⟨?_, hv_next (h := ((t2.h.new 37 true [.int .i64 0, .int .i64 0, .str [], .str [], .int .i64 0, .int .i64 0, .int .i64 0, .str [], .nils, .nils, .int .i64 0]).set t2.h.next (bk t2.h.next 37 true 1 ((l.getD i2 default).elv)))) (by kernel_rfl) (by first | omega | (simp only [nnew, nset]; omega))⟩, ?_⟩
              · intro j hj; rcases Nat.lt_succ_iff_lt_or_eq.1 hj with h | rfl; exact hI2 j h; exact (okV_in2 hb5 hb6)
              · refine Told.put 15 (wrapA hlt hlen) (by kernel_rfl) ?_
                refine Told.put 5 (congrArg (AV.int .i64) (show _ = verdW l (i2 + 1) 0 by rw [verdW_succ l i2 0 hlt, stepV_in hb4])) (by kernel_rfl) ?_
                exact Told.k (by kernel_rfl)
      · refine W.sub 16 hb3 (by kernel_rfl) ?_
        refine W.exit ?_
        refine blockQ ?_
        refine W.seq ?_
        refine W.region ?_
        refine WO.fin (by kernel_rfl) ?_
        refine W.ret ?_
        exact RetQ.k (v' := .tup [.int .i64 (verdW l i2 0), .int .i64 0]) (by unfold verdictIn; rw [hb1]; simp only [cond_false]; rw [verd_end l 0 (fun j hj => hI2 j (by have := end_eq hi2 hb3; omega)), ← end_eq hi2 hb3]) (by kernel_rfl) (by kernel_rfl)

set_option maxRecDepth 20000 in
theorem verdict_c {n : Nat}  (hn : 2 ≤ n) (nn : Bool) (l : List Ev) (hl : l.length < big) (hK : big ≤ K)  (h : Heap) : (fns (Cg K) n).call 16 [(evsA nn l)] h none = some (.val (.tup [.int .i64 (verd l 0).1, .int .i64 (verd l 0).2]) h none) := by
  obtain ⟨m, rfl⟩ : ∃ m, n = m + 1 := ⟨n - 1, by omega⟩
  have hlen : l.length ≤ 9223372036854775807 := by unfold big at hl; omega
  have hlK : l.length < (Cg K).loops := by rw [loops_eq]; omega
  refine pureq (C := Cg K) (F := fns (Cg K) m) (fn := Tryz.f16) (c := bodyOf Tryz.f16) (by kernel_rfl) (by kernel_rfl) (by kernel_rfl) (noL (evsD _ _) rfl) (by kernel_rfl) (by kernel_rfl) (by kernel_rfl) ?_ h
  refine W.seq ?_
  refine W.region ?_
  refine WO.fin (by kernel_rfl) ?_
  refine W.seq ?_
  refine W.region ?_
  refine WO.fin (by kernel_rfl) ?_
  refine W.seq ?_
  refine W.seq ?_
  refine W.region ?_
  refine WO.fin (by kernel_rfl) ?_
  refine W.block ?_
  refine W.loopc (len := l.length) (fun i t => (S 33 [some ((evsA nn l)), none, (t.g 2), (t.g 3), some (.int .i64 (verdW l i 0)), some (.int .i64 ((i : Nat) : Int)), (t.g 6), (t.g 7), (t.g 8), (t.g 9), (t.g 10), (t.g 11), (t.g 12), (t.g 13), (t.g 14), (t.g 15), (t.g 16), (t.g 17), (t.g 18), (t.g 19), (t.g 20), (t.g 21), (t.g 22), (t.g 23), (t.g 24), (t.g 25), (t.g 26), (t.g 27), (t.g 28), (t.g 29), (t.g 30), (t.g 31), none] (hpL []))) (fun i t => (∀ j, j < i → okV (l.getD j default) = true)) hlK ?_ ?_ ?_
  · refine Told.put 4 (congrArg (AV.int .i64) (verdW_zero l 0).symm) (by kernel_rfl) ?_; exact Told.k (by kernel_rfl)
  · intro j hj; omega
  · intro i1 t1 hi1 hI1
    refine W.seq ?_
    refine W.seq ?_
    refine W.region ?_
    refine WO.adv 2 (by kernel_rfl) ?_
    refine WO.opc (fun h => evs_len (K := K) (h := h) (b := nn) (l := l)) (by kernel_rfl) ?_
    refine WO.fin (by kernel_rfl) ?_
    refine W.cond (decide (((i1 : Nat) : Int) < ((l.length : Nat) : Int))) (by kernel_rfl) (fun hb2 => ?_) (fun hb2 => ?_)
    · refine W.sub 9 hb2 (by kernel_rfl) ?_
      refine W.skip ?_
      refine W.seq ?_
      refine W.block ?_
      refine W.seq ?_
      refine W.seq ?_
      refine W.region ?_
      refine WO.adv 2 (by kernel_rfl) ?_
      refine WO.opc (fun h => evs_at (K := K) (h := h) (b := nn) (lt_of_dec hb2)) (by kernel_rfl) ?_
      refine WO.adv 1 (by kernel_rfl) ?_
      refine WO.opc (fun h => ev_kind (K := K) (h := h) (lt_of_dec hb2)) (by kernel_rfl) ?_
      refine WO.fin (by kernel_rfl) ?_
      refine W.cond ((l.getD i1 default).kind != 3) (by kernel_rfl) (fun hb3 => ?_) (fun hb3 => ?_)
      · refine W.sub 17 hb3 (by kernel_rfl) ?_
        refine W.exit ?_
        refine blockQ ?_
        refine W.region ?_
        refine WO.fin (by kernel_rfl) ?_
        have hlt : i1 < l.length := ((lt_of_dec hb2))
        refine ⟨hlt, ?_, ?_⟩
        · intro j hj; rcases Nat.lt_succ_iff_lt_or_eq.1 hj with h | rfl; exact hI1 j h; exact (okV_skip hb3)
        · refine Told.put 5 (wrapA hlt hlen) (by kernel_rfl) ?_
          refine Told.put 4 (congrArg (AV.int .i64) (show _ = verdW l (i1 + 1) 0 by rw [verdW_succ l i1 0 hlt, stepV_skip hb3])) (by kernel_rfl) ?_
          exact Told.k (by kernel_rfl)
      · refine W.sub 17 hb3 (by kernel_rfl) ?_
        refine W.skip ?_
        refine W.seq ?_
        refine W.seq ?_
        refine W.region ?_
        refine WO.adv 2 (by kernel_rfl) ?_
        refine WO.opc (fun h => evs_at (K := K) (h := h) (b := nn) (lt_of_dec hb2)) (by kernel_rfl) ?_
        refine WO.adv 1 (by kernel_rfl) ?_
        refine WO.opc (fun h => ev_other (K := K) (h := h) (lt_of_dec hb2)) (by kernel_rfl) ?_
        refine WO.callp (by kernel_rfl) (within_c (n := m) (by omega) ((l.getD i1 default).other) 0 4 _) ?_
        refine WO.fin (by kernel_rfl) ?_
        refine W.cond (!(withinB ((l.getD i1 default).other) 0 4)) (by kernel_rfl) (fun hb4 => ?_) (fun hb4 => ?_)
        · refine W.sub 24 hb4 (by kernel_rfl) ?_
          refine W.seq ?_
          refine W.region ?_
          refine WO.fin (by kernel_rfl) ?_
          refine W.ret ?_
          exact RetQ.k (v' := .tup [.int .i64 0, .int .i64 21]) (by rw [verd_bad l i1 0 (lt_of_dec hb2) hI1 (okV_not hb3 (by simpa using hb4))]) (by kernel_rfl) (by kernel_rfl)
        · refine W.sub 24 hb4 (by kernel_rfl) ?_
          refine W.skip ?_
          refine W.region ?_
          refine WO.adv 3 (by kernel_rfl) ?_
          refine WO.opc (fun h => evs_at (K := K) (h := h) (b := nn) (lt_of_dec hb2)) (by kernel_rfl) ?_
          refine WO.adv 1 (by kernel_rfl) ?_
          refine WO.opc (fun h => ev_other (K := K) (h := h) (lt_of_dec hb2)) (by kernel_rfl) ?_
          refine WO.fin (by kernel_rfl) ?_
          refine W.region ?_
          refine WO.fin (by kernel_rfl) ?_
          have hlt : i1 < l.length := ((lt_of_dec hb2))
          refine ⟨hlt, ?_, ?_⟩
          · intro j hj; rcases Nat.lt_succ_iff_lt_or_eq.1 hj with h | rfl; exact hI1 j h; exact (okV_in (by simpa using hb4))
          · refine Told.put 5 (wrapA hlt hlen) (by kernel_rfl) ?_
            refine Told.put 4 (congrArg (AV.int .i64) (show _ = verdW l (i1 + 1) 0 by rw [verdW_succ l i1 0 hlt, stepV_in hb3])) (by kernel_rfl) ?_
            exact Told.k (by kernel_rfl)
    · refine W.sub 9 hb2 (by kernel_rfl) ?_
      refine W.exit ?_
      refine blockQ ?_
      refine W.seq ?_
      refine W.region ?_
      refine WO.fin (by kernel_rfl) ?_
      refine W.ret ?_
      exact RetQ.k (v' := .tup [.int .i64 (verdW l i1 0), .int .i64 0]) (by rw [verd_end l 0 (fun j hj => hI1 j (by have := end_eq hi1 hb2; omega)), ← end_eq hi1 hb2]) (by kernel_rfl) (by kernel_rfl)

theorem evsErr_len (l : List Ev) (h : (evsErr l).2 = 0) : l.length ≤ 60 := by
  unfold evsErr at h
  cases hd : decide (((l.length : Nat) : Int) > 60) with
  | true => rw [hd] at h; cases h
  | false => have := of_decide_eq_false hd; omega
theorem OwnEv.at {s : St} {k : Nat} {h : Heap} {x : AV} {l l' : List Ev} (he : s.h = h) (hv : s.v k = x) (hl : l = l') (O : OwnEv h x l h.next) : OwnEv s.h (s.v k) l' s.h.next := by
  subst hl; exact OwnSl.at he hv O
theorem OwnEv.new {h : Heap} {v : AV} {l : List Ev} {bd el : Nat} {wh : Bool} {c : List AV} (O : OwnEv h v l bd) : OwnEv (h.new el wh c) v l bd := OwnSl.new O
theorem OwnEv.set {h : Heap} {v : AV} {l : List Ev} {bd j : Nat} {b' : Blk} (hj : bd ≤ j) (O : OwnEv h v l bd) : OwnEv (h.set j b') v l bd := OwnSl.set hj O
theorem OwnEv.grow {h : Heap} {v : AV} {l : List Ev} {bd : Nat} (O : OwnEv h v l bd) : OwnEv h v l h.next := OwnSl.grow O
theorem freeze_one {h : Heap} {v w : AV} (hv : freezeA h 64 v = some w) : freezeA h deep (res1 [v]) = some w := hv
theorem freeze_two {h : Heap} {v w : AV} {n : Int} (hv : freezeA h 63 v = some w) : freezeA h deep (res1 [v, .int .i64 n]) = some (.tup [w, .int .i64 n]) := by
  have h1 : freezeA h deep (res1 [v, .int .i64 n]) = (match freezeL (freezeA h 63) [v, .int .i64 n] with | some cs => some (.tup cs) | none => none) := rfl
  rw [h1, freezeL_cons, hv]; rfl
def inC (c : Int) : Bool := decide (c ≥ (-1)) && decide (c < 6)
def eventsOfE (l : List Ev) (c : Int) : Int := orI (evsErr l).2 (bif inC c then 0 else 3)
def eventsOf (l : List Ev) (c : Int) : List Ev := bif eventsOfE l c != 0 then [] else partL l c
theorem orI_zero {a b : Int} (h : orI a b = 0) : a = 0 ∧ b = 0 := by
  unfold orI at h
  cases ha : a != 0 with
  | true => rw [ha] at h; simp at ha h; exact absurd h ha
  | false => rw [ha] at h; simp at ha h; exact ⟨ha, h⟩
set_option maxRecDepth 20000 in
theorem eventsOf_c {n : Nat} {d : Nat} (hn : d + 9 ≤ n) (nn : Bool) (l : List Ev) (hd : ∀ i, i < l.length → (l.getD i default).val.dep ≤ d ∧ (l.getD i default).val.ok) (hl : l.length < big) (hK : big ≤ K) (c : Int)  (h : Heap) : (fns (Cg K) n).call 18 [(evsA nn l), .int .i64 c] h none = some (.val (.tup [evsA true (eventsOf l c), .int .i64 (eventsOfE l c)]) h none) := by
  obtain ⟨m, rfl⟩ : ∃ m, n = m + 1 := ⟨n - 1, by omega⟩
  have hlen : l.length ≤ 9223372036854775807 := by unfold big at hl; omega
  have hlK : l.length < (Cg K).loops := by rw [loops_eq]; omega
  refine pureq (C := Cg K) (F := fns (Cg K) m) (fn := Tryz.f18) (c := bodyOf Tryz.f18) (by kernel_rfl) (by kernel_rfl) (by kernel_rfl) (noL (evsD _ _) (noL (by kernel_rfl) rfl)) (by kernel_rfl) (by kernel_rfl) (by kernel_rfl) ?_ h
  refine W.seq ?_
  refine W.region ?_
  refine WO.fin (by kernel_rfl) ?_
  refine W.seq ?_
  refine W.seq ?_
  refine W.region ?_
  refine WO.adv 1 (by kernel_rfl) ?_
  refine WO.callp (by kernel_rfl) (logsEventsErr_c (d := d) (by omega) nn l hd hl hK _) ?_
  refine WO.adv 3 (by kernel_rfl) ?_
  refine splitB (decide (c ≥ (-1))) (fun hb1 => ?_) (fun hb1 => ?_)
  · refine WO.sub 13 hb1 (by kernel_rfl) ?_
    refine WO.sub 14 hb1 (by kernel_rfl) ?_
    refine WO.adv 3 (by kernel_rfl) ?_
    refine WO.callp (by kernel_rfl) (unless_c (n := m) (by omega) (decide (c < 6)) 3 _) ?_
    refine WO.adv 1 (by kernel_rfl) ?_
    refine WO.callh (by kernel_rfl) rfl (or_c (n := m) (i := 0) (g := 0) (ver := 0)  (by omega) ((evsErr l).2) (bif (decide (c < 6)) then 0 else 3) hK (by kernel_rfl)) ?_
    refine WO.fin (by kernel_rfl) ?_
    refine W.seq ?_
    refine W.region ?_
    refine WO.fin (by kernel_rfl) ?_
    refine W.cond ((orI ((evsErr l).2) (bif (decide (c < 6)) then 0 else 3)) != 0) (by kernel_rfl) (fun hb2 => ?_) (fun hb2 => ?_)
    · refine W.sub 22 hb2 (by kernel_rfl) ?_
      refine W.seq ?_
      refine W.region ?_
      refine WO.fin (by kernel_rfl) ?_
      refine W.ret ?_
      exact RetQ.k (v' := .tup [.nils, .int .i64 (orI ((evsErr l).2) (bif (decide (c < 6)) then 0 else 3))]) (by unfold eventsOf; rw [show eventsOfE l c = (orI ((evsErr l).2) (bif (decide (c < 6)) then 0 else 3)) from (by unfold eventsOfE inC; simp only [hb1, Bool.true_and, Bool.false_and, cond_true, cond_false]), hb2]; rfl) (by kernel_rfl) (by kernel_rfl)
    · refine W.sub 22 hb2 (by kernel_rfl) ?_
      refine W.skip ?_
      refine W.seq ?_
      refine W.region ?_
      refine WO.fin (by kernel_rfl) ?_
      refine W.seq ?_
      refine W.seq ?_
      refine W.region ?_
      refine WO.adv 1 (by kernel_rfl) ?_
      refine WO.opc (fun h => evs_len (K := K) (h := h) (b := nn) (l := l)) (by kernel_rfl) ?_
      refine WO.fin (by kernel_rfl) ?_
      refine W.block ?_
      refine W.loopc (len := l.length) (fun i t => (S 40 [some ((evsA nn l)), some (.int .i64 c), none, none, some (.nils), some (.int .i64 0), some (.int .i64 (orI ((evsErr l).2) (bif (decide (c < 6)) then 0 else 3))), some ((t.v 7)), none, (t.g 9), some ((evsA nn l)), some (.int .i64 ((evsErr l).2)), some (.int .i64 c), some (.bool true), some (.bool true), some (.int .i64 c), some (.bool (decide (c < 6))), some (.bool (decide (c < 6))), some (.int .i64 (bif (decide (c < 6)) then 0 else 3)), some (.slO 0 0 1 2 2 true), some (.int .i64 (orI ((evsErr l).2) (bif (decide (c < 6)) then 0 else 3))), some (.int .i64 (orI ((evsErr l).2) (bif (decide (c < 6)) then 0 else 3))), some (.bool false), none, some ((evsA nn l)), some (.int .i64 ((l.length : Nat) : Int)), some (.int .i64 ((i : Nat) : Int)), (t.g 27), (t.g 28), (t.g 29), (t.g 30), (t.g 31), (t.g 32), (t.g 33), (t.g 34), (t.g 35), (t.g 36), (t.g 37), (t.g 38), none] t.h)) (fun i t => (OwnEv t.h (t.v 7) (partL (l.take i) c) t.h.next) ∧ (0 ≤ t.h.next)) hlK ?_ ?_ ?_
      · exact Told.k (by kernel_rfl)
      · refine ⟨?_, hv_next (h := (hpL [bk 0 24 true (Nat.succ 0) [.int .i64 ((evsErr l).2), .int .i64 (bif (decide (c < 6)) then 0 else 3)]])) (by kernel_rfl) (by exact Nat.le_of_ble_eq_true (by kernel_rfl))⟩
        exact OwnEv.at (h := (hpL [bk 0 24 true (Nat.succ 0) [.int .i64 ((evsErr l).2), .int .i64 (bif (decide (c < 6)) then 0 else 3)]])) (x := .nils) (l := []) (by kernel_rfl) (by kernel_rfl) rfl (OwnEv.nil _)
      · rintro i3 t3 hi3 ⟨hI3, hnx_i3⟩
        refine W.seq ?_
        refine W.region ?_
        refine WO.fin (by kernel_rfl) ?_
        refine W.seq ?_
        refine W.cond (decide (((i3 : Nat) : Int) < ((l.length : Nat) : Int))) (by kernel_rfl) (fun hb4 => ?_) (fun hb4 => ?_)
        · refine W.sub 27 hb4 (by kernel_rfl) ?_
          refine W.skip ?_
          refine W.seq ?_
          refine W.block ?_
          refine W.seq ?_
          refine W.region ?_
          refine WO.opc (fun h => evs_at (K := K) (h := h) (b := nn) (lt_of_dec hb4)) (by kernel_rfl) ?_
          refine WO.opc (fun h => ev_elv (K := K) (h := h) (lt_of_dec hb4)) (by kernel_rfl) ?_
          refine WO.opk (y := some (.ptrO t3.h.next 0, (t3.h.new 37 true [.int .i64 0, .int .i64 0, .str [], .str [], .int .i64 0, .int .i64 0, .int .i64 0, .str [], .nils, .nils, .int .i64 0]))) rfl (by kernel_rfl) ?_
          refine WO.opk (y := opStore (Cg K) (t3.h.new 37 true [.int .i64 0, .int .i64 0, .str [], .str [], .int .i64 0, .int .i64 0, .int .i64 0, .str [], .nils, .nils, .int .i64 0]) 37 (.ptrO t3.h.next 0) (.agg ((l.getD i3 default).elv))) (x := .tup []) (h' := ((t3.h.new 37 true [.int .i64 0, .int .i64 0, .str [], .str [], .int .i64 0, .int .i64 0, .int .i64 0, .str [], .nils, .nils, .int .i64 0]).set t3.h.next (bk t3.h.next 37 true 1 ((l.getD i3 default).elv)))) (store_k gnew (by kernel_rfl) (by kernel_rfl)) (by kernel_rfl) ?_
          refine WO.nil ?_
          refine W.seq ?_
          refine W.region ?_
          refine WO.adv 1 (by kernel_rfl) ?_
          refine WO.opk (y := keep ((t3.h.new 37 true [.int .i64 0, .int .i64 0, .str [], .str [], .int .i64 0, .int .i64 0, .int .i64 0, .str [], .nils, .nils, .int .i64 0]).set t3.h.next (bk t3.h.next 37 true 1 ((l.getD i3 default).elv))) (opLoad (Cg K) ((t3.h.new 37 true [.int .i64 0, .int .i64 0, .str [], .str [], .int .i64 0, .int .i64 0, .int .i64 0, .str [], .nils, .nils, .int .i64 0]).set t3.h.next (bk t3.h.next 37 true 1 ((l.getD i3 default).elv))) 3 (.ptrO t3.h.next 0))) (x := .int .i64 ((l.getD i3 default).comp)) (h' := ((t3.h.new 37 true [.int .i64 0, .int .i64 0, .str [], .str [], .int .i64 0, .int .i64 0, .int .i64 0, .str [], .nils, .nils, .int .i64 0]).set t3.h.next (bk t3.h.next 37 true 1 ((l.getD i3 default).elv)))) (load_k gss (by kernel_rfl)) (by kernel_rfl) ?_
          refine WO.fin (by kernel_rfl) ?_
          refine W.cond ((l.getD i3 default).comp == c) (by kernel_rfl) (fun hb5 => ?_) (fun hb5 => ?_)
          · refine W.sub 33 hb5 (by kernel_rfl) ?_
            refine W.region ?_
            refine WO.adv 1 (by kernel_rfl) ?_
            refine WO.opk (y := keep ((t3.h.new 37 true [.int .i64 0, .int .i64 0, .str [], .str [], .int .i64 0, .int .i64 0, .int .i64 0, .str [], .nils, .nils, .int .i64 0]).set t3.h.next (bk t3.h.next 37 true 1 ((l.getD i3 default).elv))) (opLoad (Cg K) ((t3.h.new 37 true [.int .i64 0, .int .i64 0, .str [], .str [], .int .i64 0, .int .i64 0, .int .i64 0, .str [], .nils, .nils, .int .i64 0]).set t3.h.next (bk t3.h.next 37 true 1 ((l.getD i3 default).elv))) 37 (.ptrO t3.h.next 0))) (x := .agg ((l.getD i3 default).elv)) (h' := ((t3.h.new 37 true [.int .i64 0, .int .i64 0, .str [], .str [], .int .i64 0, .int .i64 0, .int .i64 0, .str [], .nils, .nils, .int .i64 0]).set t3.h.next (bk t3.h.next 37 true 1 ((l.getD i3 default).elv)))) (load_k gss (by kernel_rfl)) (by kernel_rfl) ?_
            refine WO.opk (y := some (.slO (Nat.succ t3.h.next) 0 11 1 1 true, (((t3.h.new 37 true [.int .i64 0, .int .i64 0, .str [], .str [], .int .i64 0, .int .i64 0, .int .i64 0, .str [], .nils, .nils, .int .i64 0]).set t3.h.next (bk t3.h.next 37 true 1 ((l.getD i3 default).elv))).new 37 true ((l.getD i3 default).elv)))) rfl (by kernel_rfl) ?_
            obtain ⟨x6, h6, he6, hO6, hn6⟩ := append_ev (K := K) (h := (((t3.h.new 37 true [.int .i64 0, .int .i64 0, .str [], .str [], .int .i64 0, .int .i64 0, .int .i64 0, .str [], .nils, .nils, .int .i64 0]).set t3.h.next (bk t3.h.next 37 true 1 ((l.getD i3 default).elv))).new 37 true ((l.getD i3 default).elv))) (v := (t3.v 7)) (l := (partL (l.take i3) c)) (id := (Nat.succ t3.h.next)) (g := (Nat.succ t3.h.next)) (ver := 0) (e := (l.getD i3 default)) (OwnEv.new (OwnEv.set (j := t3.h.next) (by omega) (OwnEv.new hI3))) (Nat.le_trans (part_len _ _) (Nat.le_trans (by rw [List.length_take]; exact Nat.min_le_right _ _) (evsErr_len l (orI_zero (by simpa using hb2)).1))) gnew
            refine WO.opk he6 (by kernel_rfl) ?_
            refine WO.fin (by kernel_rfl) ?_
            refine W.region ?_
            refine WO.fin (by kernel_rfl) ?_
            have hlt : i3 < l.length := ((lt_of_dec hb4))
            refine ⟨hlt, ⟨?_, hv_next (h := h6) (by kernel_rfl) (by first | omega | (simp only [nnew, nset]; omega))⟩, ?_⟩
            · exact OwnEv.at (h := h6) (by kernel_rfl) (by kernel_rfl) (part_yes l c i3 hlt hb5).symm (OwnEv.grow hO6)
            · refine Told.put 26 (wrapA hlt hlen) (by kernel_rfl) ?_
              exact Told.k (by kernel_rfl)
          · refine W.sub 33 hb5 (by kernel_rfl) ?_
            refine W.skip ?_
            refine W.region ?_
            refine WO.fin (by kernel_rfl) ?_
            have hlt : i3 < l.length := ((lt_of_dec hb4))
            refine ⟨hlt, ⟨?_, hv_next (h := ((t3.h.new 37 true [.int .i64 0, .int .i64 0, .str [], .str [], .int .i64 0, .int .i64 0, .int .i64 0, .str [], .nils, .nils, .int .i64 0]).set t3.h.next (bk t3.h.next 37 true 1 ((l.getD i3 default).elv)))) (by kernel_rfl) (by first | omega | (simp only [nnew, nset]; omega))⟩, ?_⟩
            · exact OwnEv.at (h := ((t3.h.new 37 true [.int .i64 0, .int .i64 0, .str [], .str [], .int .i64 0, .int .i64 0, .int .i64 0, .str [], .nils, .nils, .int .i64 0]).set t3.h.next (bk t3.h.next 37 true 1 ((l.getD i3 default).elv)))) (by kernel_rfl) (by kernel_rfl) (part_no l c i3 hlt hb5).symm (OwnEv.grow (OwnEv.set (j := t3.h.next) (by omega) (OwnEv.new hI3)))
            · refine Told.put 26 (wrapA hlt hlen) (by kernel_rfl) ?_
              exact Told.k (by kernel_rfl)
        · refine W.sub 27 hb4 (by kernel_rfl) ?_
          refine W.exit ?_
          refine blockQ ?_
          refine W.seq ?_
          refine W.region ?_
          refine WO.fin (by kernel_rfl) ?_
          refine W.ret ?_
          exact RetQ.kh (vs := [(t3.v 7), .int .i64 0]) (h' := t3.h) (v' := .tup [evsA true (eventsOf l c), .int .i64 (0)]) (by kernel_rfl) (by rw [show eventsOfE l c = (orI ((evsErr l).2) (bif (decide (c < 6)) then 0 else 3)) from (by unfold eventsOfE inC; simp only [hb1, Bool.true_and, Bool.false_and, cond_true, cond_false]), show (orI ((evsErr l).2) (bif (decide (c < 6)) then 0 else 3)) = 0 from (by simpa using hb2)]) (by kernel_rfl) (by kernel_rfl) (freeze_two (by rw [show eventsOf l c = partL l c from (by unfold eventsOf; rw [show eventsOfE l c = (orI ((evsErr l).2) (bif (decide (c < 6)) then 0 else 3)) from (by unfold eventsOfE inC; simp only [hb1, Bool.true_and, Bool.false_and, cond_true, cond_false]), hb2]; rfl)]; have h1 := hI3; rw [end_eq hi3 hb4, List.take_length] at h1; exact OwnEv.freeze h1))
  · refine WO.sub 13 hb1 (by kernel_rfl) ?_
    refine WO.sub 14 hb1 (by kernel_rfl) ?_
    refine WO.adv 3 (by kernel_rfl) ?_
    refine WO.callp (by kernel_rfl) (unless_c (n := m) (by omega) false 3 _) ?_
    refine WO.adv 1 (by kernel_rfl) ?_
    refine WO.callh (by kernel_rfl) rfl (or_c (n := m) (i := 0) (g := 0) (ver := 0)  (by omega) ((evsErr l).2) 3 hK (by kernel_rfl)) ?_
    refine WO.fin (by kernel_rfl) ?_
    refine W.seq ?_
    refine W.region ?_
    refine WO.fin (by kernel_rfl) ?_
    refine W.cond ((orI ((evsErr l).2) 3) != 0) (by kernel_rfl) (fun hb7 => ?_) (fun hb7 => ?_)
    · refine W.sub 22 hb7 (by kernel_rfl) ?_
      refine W.seq ?_
      refine W.region ?_
      refine WO.fin (by kernel_rfl) ?_
      refine W.ret ?_
      exact RetQ.k (v' := .tup [.nils, .int .i64 (orI ((evsErr l).2) 3)]) (by unfold eventsOf; rw [show eventsOfE l c = (orI ((evsErr l).2) 3) from (by unfold eventsOfE inC; simp only [hb1, Bool.true_and, Bool.false_and, cond_true, cond_false]), hb7]; rfl) (by kernel_rfl) (by kernel_rfl)
    · refine W.sub 22 hb7 (by kernel_rfl) ?_
      refine W.skip ?_
      refine W.seq ?_
      refine W.region ?_
      refine WO.fin (by kernel_rfl) ?_
      refine W.seq ?_
      refine W.seq ?_
      refine W.region ?_
      refine WO.adv 1 (by kernel_rfl) ?_
      refine WO.opc (fun h => evs_len (K := K) (h := h) (b := nn) (l := l)) (by kernel_rfl) ?_
      refine WO.fin (by kernel_rfl) ?_
      refine W.block ?_
      refine W.loopc (len := l.length) (fun i t => (S 40 [some ((evsA nn l)), some (.int .i64 c), none, none, some (.nils), some (.int .i64 0), some (.int .i64 (orI ((evsErr l).2) 3)), some ((t.v 7)), none, (t.g 9), some ((evsA nn l)), some (.int .i64 ((evsErr l).2)), some (.int .i64 c), some (.bool false), some (.bool false), some (.tup []), some (.tup []), some (.bool false), some (.int .i64 3), some (.slO 0 0 1 2 2 true), some (.int .i64 (orI ((evsErr l).2) 3)), some (.int .i64 (orI ((evsErr l).2) 3)), some (.bool false), none, some ((evsA nn l)), some (.int .i64 ((l.length : Nat) : Int)), some (.int .i64 ((i : Nat) : Int)), (t.g 27), (t.g 28), (t.g 29), (t.g 30), (t.g 31), (t.g 32), (t.g 33), (t.g 34), (t.g 35), (t.g 36), (t.g 37), (t.g 38), none] t.h)) (fun i t => (OwnEv t.h (t.v 7) (partL (l.take i) c) t.h.next) ∧ (0 ≤ t.h.next)) hlK ?_ ?_ ?_
      · exact Told.k (by kernel_rfl)
      · refine ⟨?_, hv_next (h := (hpL [bk 0 24 true (Nat.succ 0) [.int .i64 ((evsErr l).2), .int .i64 3]])) (by kernel_rfl) (by exact Nat.le_of_ble_eq_true (by kernel_rfl))⟩
        exact OwnEv.at (h := (hpL [bk 0 24 true (Nat.succ 0) [.int .i64 ((evsErr l).2), .int .i64 3]])) (x := .nils) (l := []) (by kernel_rfl) (by kernel_rfl) rfl (OwnEv.nil _)
      · rintro i8 t8 hi8 ⟨hI8, hnx_i8⟩
        refine W.seq ?_
        refine W.region ?_
        refine WO.fin (by kernel_rfl) ?_
        refine W.seq ?_
        refine W.cond (decide (((i8 : Nat) : Int) < ((l.length : Nat) : Int))) (by kernel_rfl) (fun hb9 => ?_) (fun hb9 => ?_)
        · refine W.sub 27 hb9 (by kernel_rfl) ?_
          refine W.skip ?_
          refine W.seq ?_
          refine W.block ?_
          refine W.seq ?_
          refine W.region ?_
          refine WO.opc (fun h => evs_at (K := K) (h := h) (b := nn) (lt_of_dec hb9)) (by kernel_rfl) ?_
          refine WO.opc (fun h => ev_elv (K := K) (h := h) (lt_of_dec hb9)) (by kernel_rfl) ?_
          refine WO.opk (y := some (.ptrO t8.h.next 0, (t8.h.new 37 true [.int .i64 0, .int .i64 0, .str [], .str [], .int .i64 0, .int .i64 0, .int .i64 0, .str [], .nils, .nils, .int .i64 0]))) rfl (by kernel_rfl) ?_
          refine WO.opk (y := opStore (Cg K) (t8.h.new 37 true [.int .i64 0, .int .i64 0, .str [], .str [], .int .i64 0, .int .i64 0, .int .i64 0, .str [], .nils, .nils, .int .i64 0]) 37 (.ptrO t8.h.next 0) (.agg ((l.getD i8 default).elv))) (x := .tup []) (h' := ((t8.h.new 37 true [.int .i64 0, .int .i64 0, .str [], .str [], .int .i64 0, .int .i64 0, .int .i64 0, .str [], .nils, .nils, .int .i64 0]).set t8.h.next (bk t8.h.next 37 true 1 ((l.getD i8 default).elv)))) (store_k gnew (by kernel_rfl) (by kernel_rfl)) (by kernel_rfl) ?_
          refine WO.nil ?_
          refine W.seq ?_
          refine W.region ?_
          refine WO.adv 1 (by kernel_rfl) ?_
          refine WO.opk (y := keep ((t8.h.new 37 true [.int .i64 0, .int .i64 0, .str [], .str [], .int .i64 0, .int .i64 0, .int .i64 0, .str [], .nils, .nils, .int .i64 0]).set t8.h.next (bk t8.h.next 37 true 1 ((l.getD i8 default).elv))) (opLoad (Cg K) ((t8.h.new 37 true [.int .i64 0, .int .i64 0, .str [], .str [], .int .i64 0, .int .i64 0, .int .i64 0, .str [], .nils, .nils, .int .i64 0]).set t8.h.next (bk t8.h.next 37 true 1 ((l.getD i8 default).elv))) 3 (.ptrO t8.h.next 0))) (x := .int .i64 ((l.getD i8 default).comp)) (h' := ((t8.h.new 37 true [.int .i64 0, .int .i64 0, .str [], .str [], .int .i64 0, .int .i64 0, .int .i64 0, .str [], .nils, .nils, .int .i64 0]).set t8.h.next (bk t8.h.next 37 true 1 ((l.getD i8 default).elv)))) (load_k gss (by kernel_rfl)) (by kernel_rfl) ?_
          refine WO.fin (by kernel_rfl) ?_
          refine W.cond ((l.getD i8 default).comp == c) (by kernel_rfl) (fun hb10 => ?_) (fun hb10 => ?_)
          · refine W.sub 33 hb10 (by kernel_rfl) ?_
            refine W.region ?_
            refine WO.adv 1 (by kernel_rfl) ?_
            refine WO.opk (y := keep ((t8.h.new 37 true [.int .i64 0, .int .i64 0, .str [], .str [], .int .i64 0, .int .i64 0, .int .i64 0, .str [], .nils, .nils, .int .i64 0]).set t8.h.next (bk t8.h.next 37 true 1 ((l.getD i8 default).elv))) (opLoad (Cg K) ((t8.h.new 37 true [.int .i64 0, .int .i64 0, .str [], .str [], .int .i64 0, .int .i64 0, .int .i64 0, .str [], .nils, .nils, .int .i64 0]).set t8.h.next (bk t8.h.next 37 true 1 ((l.getD i8 default).elv))) 37 (.ptrO t8.h.next 0))) (x := .agg ((l.getD i8 default).elv)) (h' := ((t8.h.new 37 true [.int .i64 0, .int .i64 0, .str [], .str [], .int .i64 0, .int .i64 0, .int .i64 0, .str [], .nils, .nils, .int .i64 0]).set t8.h.next (bk t8.h.next 37 true 1 ((l.getD i8 default).elv)))) (load_k gss (by kernel_rfl)) (by kernel_rfl) ?_
            refine WO.opk (y := some (.slO (Nat.succ t8.h.next) 0 11 1 1 true, (((t8.h.new 37 true [.int .i64 0, .int .i64 0, .str [], .str [], .int .i64 0, .int .i64 0, .int .i64 0, .str [], .nils, .nils, .int .i64 0]).set t8.h.next (bk t8.h.next 37 true 1 ((l.getD i8 default).elv))).new 37 true ((l.getD i8 default).elv)))) rfl (by kernel_rfl) ?_
            obtain ⟨x11, h11, he11, hO11, hn11⟩ := append_ev (K := K) (h := (((t8.h.new 37 true [.int .i64 0, .int .i64 0, .str [], .str [], .int .i64 0, .int .i64 0, .int .i64 0, .str [], .nils, .nils, .int .i64 0]).set t8.h.next (bk t8.h.next 37 true 1 ((l.getD i8 default).elv))).new 37 true ((l.getD i8 default).elv))) (v := (t8.v 7)) (l := (partL (l.take i8) c)) (id := (Nat.succ t8.h.next)) (g := (Nat.succ t8.h.next)) (ver := 0) (e := (l.getD i8 default)) (OwnEv.new (OwnEv.set (j := t8.h.next) (by omega) (OwnEv.new hI8))) (Nat.le_trans (part_len _ _) (Nat.le_trans (by rw [List.length_take]; exact Nat.min_le_right _ _) (evsErr_len l (orI_zero (by simpa using hb7)).1))) gnew
            refine WO.opk he11 (by kernel_rfl) ?_
            refine WO.fin (by kernel_rfl) ?_
            refine W.region ?_
            refine WO.fin (by kernel_rfl) ?_
            have hlt : i8 < l.length := ((lt_of_dec hb9))
            refine ⟨hlt, ⟨?_, hv_next (h := h11) (by kernel_rfl) (by first | omega | (simp only [nnew, nset]; omega))⟩, ?_⟩
            · exact OwnEv.at (h := h11) (by kernel_rfl) (by kernel_rfl) (part_yes l c i8 hlt hb10).symm (OwnEv.grow hO11)
            · refine Told.put 26 (wrapA hlt hlen) (by kernel_rfl) ?_
              exact Told.k (by kernel_rfl)
          · refine W.sub 33 hb10 (by kernel_rfl) ?_
            refine W.skip ?_
            refine W.region ?_
            refine WO.fin (by kernel_rfl) ?_
            have hlt : i8 < l.length := ((lt_of_dec hb9))
            refine ⟨hlt, ⟨?_, hv_next (h := ((t8.h.new 37 true [.int .i64 0, .int .i64 0, .str [], .str [], .int .i64 0, .int .i64 0, .int .i64 0, .str [], .nils, .nils, .int .i64 0]).set t8.h.next (bk t8.h.next 37 true 1 ((l.getD i8 default).elv)))) (by kernel_rfl) (by first | omega | (simp only [nnew, nset]; omega))⟩, ?_⟩
            · exact OwnEv.at (h := ((t8.h.new 37 true [.int .i64 0, .int .i64 0, .str [], .str [], .int .i64 0, .int .i64 0, .int .i64 0, .str [], .nils, .nils, .int .i64 0]).set t8.h.next (bk t8.h.next 37 true 1 ((l.getD i8 default).elv)))) (by kernel_rfl) (by kernel_rfl) (part_no l c i8 hlt hb10).symm (OwnEv.grow (OwnEv.set (j := t8.h.next) (by omega) (OwnEv.new hI8)))
            · refine Told.put 26 (wrapA hlt hlen) (by kernel_rfl) ?_
              exact Told.k (by kernel_rfl)
        · refine W.sub 27 hb9 (by kernel_rfl) ?_
          refine W.exit ?_
          refine blockQ ?_
          refine W.seq ?_
          refine W.region ?_
          refine WO.fin (by kernel_rfl) ?_
          refine W.ret ?_
          exact RetQ.kh (vs := [(t8.v 7), .int .i64 0]) (h' := t8.h) (v' := .tup [evsA true (eventsOf l c), .int .i64 (0)]) (by kernel_rfl) (by rw [show eventsOfE l c = (orI ((evsErr l).2) 3) from (by unfold eventsOfE inC; simp only [hb1, Bool.true_and, Bool.false_and, cond_true, cond_false]), show (orI ((evsErr l).2) 3) = 0 from (by simpa using hb7)]) (by kernel_rfl) (by kernel_rfl) (freeze_two (by rw [show eventsOf l c = partL l c from (by unfold eventsOf; rw [show eventsOfE l c = (orI ((evsErr l).2) 3) from (by unfold eventsOfE inC; simp only [hb1, Bool.true_and, Bool.false_and, cond_true, cond_false]), hb7]; rfl)]; have h1 := hI8; rw [end_eq hi8 hb9, List.take_length] at h1; exact OwnEv.freeze h1))

set_option maxRecDepth 20000 in
theorem part_c {n : Nat}  (hn : 1 ≤ n) (nn : Bool) (l : List Ev) (hl : l.length < big) (hK : big ≤ K) (h60 : l.length ≤ 60) (c : Int)  (h : Heap) : (fns (Cg K) n).call 20 [(evsA nn l), .int .i64 c] h none = some (.val (evsA true (partL l c)) h none) := by
  obtain ⟨m, rfl⟩ : ∃ m, n = m + 1 := ⟨n - 1, by omega⟩
  have hlen : l.length ≤ 9223372036854775807 := by unfold big at hl; omega
  have hlK : l.length < (Cg K).loops := by rw [loops_eq]; omega
  refine pureq (C := Cg K) (F := fns (Cg K) m) (fn := Tryz.f20) (c := bodyOf Tryz.f20) (by kernel_rfl) (by kernel_rfl) (by kernel_rfl) (noL (evsD _ _) (noL (by kernel_rfl) rfl)) (by kernel_rfl) (by kernel_rfl) (by kernel_rfl) ?_ h
  refine W.seq ?_
  refine W.region ?_
  refine WO.fin (by kernel_rfl) ?_
  refine W.seq ?_
  refine W.region ?_
  refine WO.fin (by kernel_rfl) ?_
  refine W.seq ?_
  refine W.seq ?_
  refine W.region ?_
  refine WO.fin (by kernel_rfl) ?_
  refine W.block ?_
  refine W.loopc (len := l.length) (fun i t => (S 28 [some ((evsA nn l)), some (.int .i64 c), none, none, some (.nils), some ((t.v 5)), some (.int .i64 ((i : Nat) : Int)), (t.g 7), (t.g 8), (t.g 9), (t.g 10), (t.g 11), (t.g 12), (t.g 13), (t.g 14), (t.g 15), (t.g 16), (t.g 17), (t.g 18), (t.g 19), (t.g 20), (t.g 21), (t.g 22), (t.g 23), (t.g 24), (t.g 25), (t.g 26), none] t.h)) (fun i t => (OwnEv t.h (t.v 5) (partL (l.take i) c) t.h.next) ∧ (0 ≤ t.h.next)) hlK ?_ ?_ ?_
  · exact Told.k (by kernel_rfl)
  · refine ⟨?_, hv_next (h := (hpL [])) (by kernel_rfl) (by exact Nat.le_of_ble_eq_true (by kernel_rfl))⟩
    exact OwnEv.at (h := (hpL [])) (x := .nils) (l := []) (by kernel_rfl) (by kernel_rfl) rfl (OwnEv.nil _)
  · rintro i1 t1 hi1 ⟨hI1, hnx_i1⟩
    refine W.seq ?_
    refine W.seq ?_
    refine W.region ?_
    refine WO.adv 2 (by kernel_rfl) ?_
    refine WO.opc (fun h => evs_len (K := K) (h := h) (b := nn) (l := l)) (by kernel_rfl) ?_
    refine WO.fin (by kernel_rfl) ?_
    refine W.cond (decide (((i1 : Nat) : Int) < ((l.length : Nat) : Int))) (by kernel_rfl) (fun hb2 => ?_) (fun hb2 => ?_)
    · refine W.sub 10 hb2 (by kernel_rfl) ?_
      refine W.skip ?_
      refine W.seq ?_
      refine W.block ?_
      refine W.seq ?_
      refine W.region ?_
      refine WO.adv 2 (by kernel_rfl) ?_
      refine WO.opc (fun h => evs_at (K := K) (h := h) (b := nn) (lt_of_dec hb2)) (by kernel_rfl) ?_
      refine WO.adv 1 (by kernel_rfl) ?_
      refine WO.opc (fun h => ev_comp (K := K) (h := h) (lt_of_dec hb2)) (by kernel_rfl) ?_
      refine WO.fin (by kernel_rfl) ?_
      refine W.cond ((l.getD i1 default).comp == c) (by kernel_rfl) (fun hb3 => ?_) (fun hb3 => ?_)
      · refine W.sub 19 hb3 (by kernel_rfl) ?_
        refine W.region ?_
        refine WO.adv 3 (by kernel_rfl) ?_
        refine WO.opc (fun h => evs_at (K := K) (h := h) (b := nn) (lt_of_dec hb2)) (by kernel_rfl) ?_
        refine WO.opc (fun h => ev_elv (K := K) (h := h) (lt_of_dec hb2)) (by kernel_rfl) ?_
        refine WO.opk (y := some (.slO t1.h.next 0 11 1 1 true, (t1.h.new 37 true ((l.getD i1 default).elv)))) rfl (by kernel_rfl) ?_
        obtain ⟨x4, h4, he4, hO4, hn4⟩ := append_ev (K := K) (h := (t1.h.new 37 true ((l.getD i1 default).elv))) (v := (t1.v 5)) (l := (partL (l.take i1) c)) (id := t1.h.next) (g := t1.h.next) (ver := 0) (e := (l.getD i1 default)) (OwnEv.new hI1) (Nat.le_trans (part_len _ _) (Nat.le_trans (by rw [List.length_take]; exact Nat.min_le_right _ _) h60)) gnew
        refine WO.opk he4 (by kernel_rfl) ?_
        refine WO.fin (by kernel_rfl) ?_
        refine W.region ?_
        refine WO.fin (by kernel_rfl) ?_
        have hlt : i1 < l.length := ((lt_of_dec hb2))
        refine ⟨hlt, ⟨?_, hv_next (h := h4) (by kernel_rfl) (by first | omega | (simp only [nnew, nset]; omega))⟩, ?_⟩
        · exact OwnEv.at (h := h4) (by kernel_rfl) (by kernel_rfl) (part_yes l c i1 hlt hb3).symm (OwnEv.grow hO4)
        · refine Told.put 6 (wrapA hlt hlen) (by kernel_rfl) ?_
          exact Told.k (by kernel_rfl)
      · refine W.sub 19 hb3 (by kernel_rfl) ?_
        refine W.skip ?_
        refine W.region ?_
        refine WO.fin (by kernel_rfl) ?_
        have hlt : i1 < l.length := ((lt_of_dec hb2))
        refine ⟨hlt, ⟨?_, hv_next (h := t1.h) (by kernel_rfl) (by first | omega | (simp only [nnew, nset]; omega))⟩, ?_⟩
        · exact OwnEv.at (h := t1.h) (by kernel_rfl) (by kernel_rfl) (part_no l c i1 hlt hb3).symm (OwnEv.grow hI1)
        · refine Told.put 6 (wrapA hlt hlen) (by kernel_rfl) ?_
          exact Told.k (by kernel_rfl)
    · refine W.sub 10 hb2 (by kernel_rfl) ?_
      refine W.exit ?_
      refine blockQ ?_
      refine W.seq ?_
      refine W.region ?_
      refine WO.fin (by kernel_rfl) ?_
      refine W.ret ?_
      exact RetQ.kh (vs := [(t1.v 5)]) (h' := t1.h) (v' := evsA true (partL l c)) (by kernel_rfl) rfl (by kernel_rfl) (by kernel_rfl) (freeze_one (by have h1 := hI1; rw [end_eq hi1 hb2, List.take_length] at h1; exact OwnEv.freeze h1))

end
end Go.Abs
namespace Go.Abs
noncomputable section
open Go

/-! ## Values and events that are the same (a list without items and none are) -/
mutual
def Val.same : Val → Val → Prop
  | .mk k n e s _ names _ items, .mk k' n' e' s' _ names' _ items' => k = k' ∧ n = n' ∧ e = e' ∧ s = s' ∧ names = names' ∧ sameL items items'
def sameL : List Val → List Val → Prop
  | [], [] => True
  | a :: l, b :: k => a.same b ∧ sameL l k
  | [], _ :: _ => False
  | _ :: _, [] => False
end
theorem same_parts {a b : Val} (h : a.same b) : a.kind = b.kind ∧ a.n = b.n ∧ a.e = b.e ∧ a.s = b.s ∧ a.names = b.names ∧ sameL a.items b.items := by
  cases a; cases b; rw [Val.same] at h; exact h
theorem sameL_len : ∀ {l k : List Val}, sameL l k → l.length = k.length
  | [], [], _ => rfl
  | a :: l, b :: k, h => by rw [sameL] at h; simp [sameL_len h.2]
  | [], _ :: _, h => by rw [sameL] at h; exact h.elim
  | _ :: _, [], h => by rw [sameL] at h; exact h.elim
theorem sameL_at : ∀ {l k : List Val} {i : Nat}, sameL l k → i < l.length → (l.getD i default).same (k.getD i default)
  | [], _, _, _, hi => by cases hi
  | a :: l, b :: k, 0, h, _ => by rw [sameL] at h; exact h.1
  | a :: l, b :: k, i + 1, h, hi => by
    rw [sameL] at h
    have := sameL_at (i := i) h.2 (by simpa using hi)
    simpa using this
  | _ :: _, [], _, h, _ => by rw [sameL] at h; exact h.elim
mutual
theorem same_refl : ∀ a : Val, a.same a
  | .mk k n e s nn names ni items => by rw [Val.same]; exact ⟨rfl, rfl, rfl, rfl, rfl, sameL_refl items⟩
theorem sameL_refl : ∀ l : List Val, sameL l l
  | [] => by rw [sameL]; trivial
  | a :: l => by rw [sameL]; exact ⟨same_refl a, sameL_refl l⟩
end
structure Ev.same (a b : Ev) : Prop where
  comp : a.comp = b.comp
  kind : a.kind = b.kind
  text : a.text = b.text
  name : a.name = b.name
  other : a.other = b.other
  val : a.val.same b.val
theorem Ev.same_refl (a : Ev) : a.same a := ⟨rfl, rfl, rfl, rfl, rfl, Go.Abs.same_refl _⟩
theorem bne_no {a b : Int} (h : a = b) : (a != b) = false := by subst h; simp
theorem beq_yes {a b : Int} (h : a = b) : (a == b) = true := by subst h; simp
theorem bytes_no {a b : List UInt8} (h : a = b) : (!(beqBytes a b)) = false := by subst h; rw [beqBytes_self]; rfl
theorem bytes_yes {a b : List UInt8} (h : a = b) : beqBytes a b = true := by subst h; exact beqBytes_self _
theorem lt_same {i a b : Nat} {t : Bool} (h : a = b) (h1 : decide (((i : Nat) : Int) < ((a : Nat) : Int)) = t) : decide (((i : Nat) : Int) < ((b : Nat) : Int)) = t := by subst h; exact h1
theorem len_no {a b : Nat} (h : a = b) : (((a : Nat) : Int) != ((b : Nat) : Int)) = false := by subst h; simp
theorem gt_no {a b : Nat} (h : a = b) : decide (((a : Nat) : Int) > ((b : Nat) : Int)) = false := by subst h; simp
theorem lt_no {a b : Nat} (h : a = b) : decide (((a : Nat) : Int) < ((b : Nat) : Int)) = false := by subst h; simp
end
end Go.Abs
namespace Go.Abs
noncomputable section
open Go Go.Proofs
variable {K : Nat}
set_option maxRecDepth 20000 in
theorem count_c {n : Nat}  (hn : 1 ≤ n) (b : Bool)  (h : Heap) : (fns (Cg K) n).call 93 [.bool b] h none = some (.val (.int .i64 (bif b then 1 else 0)) h none) := by
  obtain ⟨m, rfl⟩ : ∃ m, n = m + 1 := ⟨n - 1, by omega⟩
  refine pureq (C := Cg K) (F := fns (Cg K) m) (fn := Tryz.f93) (c := bodyOf Tryz.f93) (by kernel_rfl) (by kernel_rfl) (by kernel_rfl) (by kernel_rfl) (by kernel_rfl) (by kernel_rfl) (by kernel_rfl) ?_ h
  refine W.seq ?_
  refine W.region ?_
  refine WO.fin (by kernel_rfl) ?_
  refine W.seq ?_
  refine W.seq ?_
  refine W.region ?_
  refine WO.fin (by kernel_rfl) ?_
  refine W.cond b (by kernel_rfl) (fun hb1 => ?_) (fun hb1 => ?_)
  · refine W.sub 0 hb1 (by kernel_rfl) ?_
    refine W.sub 3 hb1 (by kernel_rfl) ?_
    refine W.seq ?_
    refine W.region ?_
    refine WO.fin (by kernel_rfl) ?_
    refine W.ret ?_
    exact RetQ.k (v' := .int .i64 1) (by simp [*]) (by kernel_rfl) (by kernel_rfl)
  · refine W.sub 0 hb1 (by kernel_rfl) ?_
    refine W.sub 3 hb1 (by kernel_rfl) ?_
    refine W.skip ?_
    refine W.seq ?_
    refine W.region ?_
    refine WO.fin (by kernel_rfl) ?_
    refine W.ret ?_
    exact RetQ.k (v' := .int .i64 0) (by simp [*]) (by kernel_rfl) (by kernel_rfl)

set_option maxRecDepth 20000 in
theorem cmp3_c {n : Nat}  (hn : 2 ≤ n) (a b : Val) (h1 : a.kind = b.kind) (h2 : a.n = b.n) (h3 : a.e = b.e) (hK : big ≤ K)  : (fns (Cg K) n).call 92 [.slO 2 0 1 3 3 true, .slO 3 0 1 3 3 true] (hpL [bk 0 35 true 0 a.six, bk 1 35 true 0 b.six, bk 2 3 true 0 [.int .i64 a.kind, .int .i64 a.n, .int .i64 a.e], bk 3 3 true 0 [.int .i64 b.kind, .int .i64 b.n, .int .i64 b.e]]) none = some (.val (.int .i64 0) (hpL [bk 0 35 true 0 a.six, bk 1 35 true 0 b.six, bk 2 3 true 0 [.int .i64 a.kind, .int .i64 a.n, .int .i64 a.e], bk 3 3 true 0 [.int .i64 b.kind, .int .i64 b.n, .int .i64 b.e]]) none) := by
  obtain ⟨m, rfl⟩ : ∃ m, n = m + 1 := ⟨n - 1, by omega⟩
  refine plainq (C := Cg K) (F := fns (Cg K) m) (fn := Tryz.f92) (c := bodyOf Tryz.f92) (by kernel_rfl) (by kernel_rfl) (by kernel_rfl) (by kernel_rfl) (by kernel_rfl) (by kernel_rfl) ?_
  refine W.seq ?_
  refine W.region ?_
  refine WO.fin (by kernel_rfl) ?_
  refine W.seq ?_
  refine W.seq ?_
  refine W.region ?_
  refine WO.fin (by kernel_rfl) ?_
  refine W.block ?_
  refine W.unroll ?_
  refine WI.step (by rw [loops_eq]; unfold big at hK; omega) ?_
  refine W.seq ?_
  refine W.seq ?_
  refine W.region ?_
  refine WO.fin (by kernel_rfl) ?_
  refine W.cond true (by kernel_rfl) (fun _ => ?_) (fun h => by cases h)
  refine W.skip ?_
  refine W.seq ?_
  refine W.block ?_
  refine W.seq ?_
  refine W.drawn2 (by kernel_rfl) ?_
  refine WE.fin (by kernel_rfl) ?_
  have hb1 : (a.kind != b.kind) = false := bne_no h1
  refine W.sub 26 hb1 (by kernel_rfl) ?_
  refine W.cond false (by kernel_rfl) (fun h => by cases h) (fun _ => ?_)
  refine W.skip ?_
  refine W.region ?_
  refine WO.fin (by kernel_rfl) ?_
  refine WI.step (by rw [loops_eq]; unfold big at hK; omega) ?_
  refine W.seq ?_
  refine W.seq ?_
  refine W.region ?_
  refine WO.fin (by kernel_rfl) ?_
  refine W.cond true (by kernel_rfl) (fun _ => ?_) (fun h => by cases h)
  refine W.skip ?_
  refine W.seq ?_
  refine W.block ?_
  refine W.seq ?_
  refine W.drawn2 (by kernel_rfl) ?_
  refine WE.fin (by kernel_rfl) ?_
  have hb2 : (a.n != b.n) = false := bne_no h2
  refine W.sub 26 hb2 (by kernel_rfl) ?_
  refine W.cond false (by kernel_rfl) (fun h => by cases h) (fun _ => ?_)
  refine W.skip ?_
  refine W.region ?_
  refine WO.fin (by kernel_rfl) ?_
  refine WI.step (by rw [loops_eq]; unfold big at hK; omega) ?_
  refine W.seq ?_
  refine W.seq ?_
  refine W.region ?_
  refine WO.fin (by kernel_rfl) ?_
  refine W.cond true (by kernel_rfl) (fun _ => ?_) (fun h => by cases h)
  refine W.skip ?_
  refine W.seq ?_
  refine W.block ?_
  refine W.seq ?_
  refine W.drawn2 (by kernel_rfl) ?_
  refine WE.fin (by kernel_rfl) ?_
  have hb3 : (a.e != b.e) = false := bne_no h3
  refine W.sub 26 hb3 (by kernel_rfl) ?_
  refine W.cond false (by kernel_rfl) (fun h => by cases h) (fun _ => ?_)
  refine W.skip ?_
  refine W.region ?_
  refine WO.fin (by kernel_rfl) ?_
  refine WI.step (by rw [loops_eq]; unfold big at hK; omega) ?_
  refine W.seq ?_
  refine W.seq ?_
  refine W.region ?_
  refine WO.fin (by kernel_rfl) ?_
  refine W.cond false (by kernel_rfl) (fun h => by cases h) (fun _ => ?_)
  refine W.exit ?_
  refine blockQ ?_
  refine W.seq ?_
  refine W.region ?_
  refine WO.adv 5 (by kernel_rfl) ?_
  refine WO.callp (by kernel_rfl) (count_c (n := m) (by omega) false _) ?_
  refine WO.adv 5 (by kernel_rfl) ?_
  refine WO.callp (by kernel_rfl) (count_c (n := m) (by omega) false _) ?_
  refine WO.fin (by kernel_rfl) ?_
  refine W.ret ?_
  exact RetN.k (v' := .int .i64 0) (by rfl) rfl (by kernel_rfl) (by kernel_rfl) (by kernel_rfl)

set_option maxRecDepth 20000 in
theorem cmpList_c {n : Nat}  (hn : 2 ≤ n) (a b : Val) (hv : a.ok) (hK : big ≤ K) (hl : a.items.length = b.items.length) (hrec0 : ∀ m, m + 1 = n → ∀ i, i < a.items.length → ∀ h, (fns (Cg K) m).call 74 [.agg (a.items.getD i default).six, .agg (b.items.getD i default).six] h none = some (.val (.int .i64 0) h none)) (h : Heap) : (fns (Cg K) n).call 94 [a.itemsA, b.itemsA] h none = some (.val (.int .i64 0) h none) := by
  obtain ⟨m, rfl⟩ : ∃ m, n = m + 1 := ⟨n - 1, by omega⟩
  have hlt := ok_items hv
  have hlen : a.items.length ≤ 9223372036854775807 := by unfold big at hlt; omega
  have hlK : a.items.length < (Cg K).loops := by rw [loops_eq]; omega
  have hrec := hrec0 m rfl
  clear hrec0
  refine pureq (C := Cg K) (F := fns (Cg K) m) (fn := Tryz.f94) (c := bodyOf Tryz.f94) (by kernel_rfl) (by kernel_rfl) (by kernel_rfl) (noL (itemsD _) (noL (itemsD _) rfl)) (by kernel_rfl) (by kernel_rfl) (by kernel_rfl) ?_ h
  refine W.seq ?_
  refine W.region ?_
  refine WO.fin (by kernel_rfl) ?_
  refine W.seq ?_
  refine W.seq ?_
  refine W.region ?_
  refine WO.fin (by kernel_rfl) ?_
  refine W.block ?_
  refine W.loopc (len := a.items.length) (fun i t => (S 44 [some (a.itemsA), some (b.itemsA), none, none, (t.g 4), some (.int .i64 ((i : Nat) : Int)), (t.g 6), (t.g 7), (t.g 8), (t.g 9), (t.g 10), (t.g 11), (t.g 12), (t.g 13), (t.g 14), (t.g 15), (t.g 16), (t.g 17), (t.g 18), (t.g 19), (t.g 20), (t.g 21), (t.g 22), (t.g 23), (t.g 24), (t.g 25), (t.g 26), (t.g 27), (t.g 28), (t.g 29), (t.g 30), none, none, none, none, none, none, none, none, none, none, none, none, none] (hpL []))) (fun i t => (True)) hlK ?_ ?_ ?_
  · exact Told.k (by kernel_rfl)
  · trivial
  · intro i1 t1 hi1 hI1
    refine W.seq ?_
    refine W.seq ?_
    refine W.region ?_
    refine WO.adv 2 (by kernel_rfl) ?_
    refine WO.opc (fun h => items_len (K := K) (h := h) (v := a)) (by kernel_rfl) ?_
    refine WO.adv 2 (by kernel_rfl) ?_
    refine splitB (decide (((i1 : Nat) : Int) < ((a.items.length : Nat) : Int))) (fun hb2 => ?_) (fun hb2 => ?_)
    · refine WO.sub 10 hb2 (by kernel_rfl) ?_
      refine WO.sub 11 hb2 (by kernel_rfl) ?_
      refine WO.adv 2 (by kernel_rfl) ?_
      refine WO.opc (fun h => items_len (K := K) (h := h) (v := b)) (by kernel_rfl) ?_
      refine WO.fin (by kernel_rfl) ?_
      have hb3 : (decide (((i1 : Nat) : Int) < ((b.items.length : Nat) : Int))) = true := lt_same hl hb2
      refine W.sub 15 hb3 (by kernel_rfl) ?_
      refine W.sub 16 hb3 (by kernel_rfl) ?_
      refine W.cond true (by kernel_rfl) (fun _ => ?_) (fun h => by cases h)
      refine W.skip ?_
      refine W.seq ?_
      refine W.block ?_
      refine W.seq ?_
      refine W.drawn2 (by kernel_rfl) ?_
      refine WE.adv (j' := 2) 2 (by kernel_rfl) (by kernel_rfl) ?_
      refine WE.opq (fun h => items_at (K := K) (h := h) (v := a) (lt_of_dec hb2)) (by kernel_rfl) (by kernel_rfl) ?_
      refine WE.opl (fun h => item_six (K := K) (h := h) (v := a) (lt_of_dec hb2)) (by kernel_rfl) (by kernel_rfl) (by kernel_rfl) ?_
      refine WE.adv (j' := 6) 2 (by kernel_rfl) (by kernel_rfl) ?_
      refine WE.opq (fun h => items_at (K := K) (h := h) (v := b) (lt_of_dec hb3)) (by kernel_rfl) (by kernel_rfl) ?_
      refine WE.opl (fun h => item_six (K := K) (h := h) (v := b) (lt_of_dec hb3)) (by kernel_rfl) (by kernel_rfl) (by kernel_rfl) ?_
      refine WE.callp (by kernel_rfl) (by kernel_rfl) (hrec i1 (lt_of_dec hb2) _) ?_
      refine WE.fin (by kernel_rfl) ?_
      refine W.seq ?_
      refine W.region ?_
      refine WO.fin (by kernel_rfl) ?_
      refine W.cond false (by kernel_rfl) (fun h => by cases h) (fun _ => ?_)
      refine W.skip ?_
      refine W.region ?_
      refine WO.fin (by kernel_rfl) ?_
      have hlt : i1 < a.items.length := ((lt_of_dec hb2))
      refine ⟨hlt, ?_, ?_⟩
      · trivial
      · refine Told.put 5 (wrapA hlt hlen) (by kernel_rfl) ?_
        exact Told.k (by kernel_rfl)
    · refine WO.sub 10 hb2 (by kernel_rfl) ?_
      refine WO.sub 11 hb2 (by kernel_rfl) ?_
      refine WO.fin (by kernel_rfl) ?_
      refine W.cond false (by kernel_rfl) (fun h => by cases h) (fun _ => ?_)
      refine W.exit ?_
      refine blockQ ?_
      refine W.seq ?_
      refine W.region ?_
      refine WO.adv 1 (by kernel_rfl) ?_
      refine WO.opc (fun h => items_len (K := K) (h := h) (v := a)) (by kernel_rfl) ?_
      refine WO.adv 1 (by kernel_rfl) ?_
      refine WO.opc (fun h => items_len (K := K) (h := h) (v := b)) (by kernel_rfl) ?_
      refine WO.adv 1 (by kernel_rfl) ?_
      refine WO.callp (by kernel_rfl) (count_c (n := m) (by omega) (decide (((a.items.length : Nat) : Int) > ((b.items.length : Nat) : Int))) _) ?_
      refine WO.adv 1 (by kernel_rfl) ?_
      refine WO.opc (fun h => items_len (K := K) (h := h) (v := a)) (by kernel_rfl) ?_
      refine WO.adv 1 (by kernel_rfl) ?_
      refine WO.opc (fun h => items_len (K := K) (h := h) (v := b)) (by kernel_rfl) ?_
      refine WO.adv 1 (by kernel_rfl) ?_
      refine WO.callp (by kernel_rfl) (count_c (n := m) (by omega) (decide (((a.items.length : Nat) : Int) < ((b.items.length : Nat) : Int))) _) ?_
      refine WO.fin (by kernel_rfl) ?_
      refine W.ret ?_
      exact RetQ.k (v' := .int .i64 (wrapF .i64 ((bif (decide (((a.items.length : Nat) : Int) > ((b.items.length : Nat) : Int))) then 1 else 0) - (bif (decide (((a.items.length : Nat) : Int) < ((b.items.length : Nat) : Int))) then 1 else 0)))) (by rw [gt_no hl, lt_no hl]; rfl) (by kernel_rfl) (by kernel_rfl)

set_option maxRecDepth 20000 in
theorem cmpVal_c1 {n : Nat}  (hn : 3 ≤ n) (a b : Val) (hv : a.ok) (hK : big ≤ K) (hs : a.kind = b.kind ∧ a.n = b.n ∧ a.e = b.e ∧ a.s = b.s ∧ a.names = b.names ∧ sameL a.items b.items) (hrec0 : ∀ m, m + 1 = n → ∀ h, (fns (Cg K) m).call 94 [a.itemsA, b.itemsA] h none = some (.val (.int .i64 0) h none)) (h : Heap) : (fns (Cg K) n).call 74 [.agg a.six, .agg b.six] h none = some (.val (.int .i64 0) h none) := by
  obtain ⟨m, rfl⟩ : ∃ m, n = m + 1 := ⟨n - 1, by omega⟩
  have hlt1 := ok_names hv
  have hlen1 : a.names.length ≤ 9223372036854775807 := by unfold big at hlt1; omega
  have hlK1 : a.names.length < (Cg K).loops := by rw [loops_eq]; omega
  have hrec := hrec0 m rfl
  clear hrec0
  refine pureq (C := Cg K) (F := fns (Cg K) m) (fn := Tryz.f74) (c := bodyOf Tryz.f74) (by kernel_rfl) (by kernel_rfl) (by kernel_rfl) (noL (aggSix _) (noL (aggSix _) rfl)) (by kernel_rfl) (by kernel_rfl) (by kernel_rfl) ?_ h
  refine W.seq ?_
  refine W.region ?_
  refine WO.fin (by kernel_rfl) ?_
  refine W.seq ?_
  refine W.seq ?_
  refine W.region ?_
  refine WO.adv 14 (by kernel_rfl) ?_
  refine WO.callh (by kernel_rfl) (by kernel_rfl) (cmp3_c (n := m) (by omega) a b hs.1 hs.2.1 hs.2.2.1 hK) ?_
  refine WO.fin (by kernel_rfl) ?_
  refine W.seq ?_
  refine W.region ?_
  refine WO.fin (by kernel_rfl) ?_
  refine W.cond false (by kernel_rfl) (fun h => by cases h) (fun _ => ?_)
  refine W.skip ?_
  refine W.seq ?_
  refine W.seq ?_
  refine W.region ?_
  refine WO.fin (by kernel_rfl) ?_
  have hb1 : (!(beqBytes a.s b.s)) = false := bytes_no hs.2.2.2.1
  refine W.sub 29 hb1 (by kernel_rfl) ?_
  refine W.cond false (by kernel_rfl) (fun h => by cases h) (fun _ => ?_)
  refine W.skip ?_
  refine W.seq ?_
  refine W.seq ?_
  refine W.region ?_
  refine WO.fin (by kernel_rfl) ?_
  refine W.block ?_
  refine W.loopc (len := a.names.length) (fun i t => (S 99 ((some (.agg a.six)) :: (some (.agg b.six)) :: (some (.ptrO 0 0)) :: (some (.ptrO 1 0)) :: (t.g 4) :: (some (.int .i64 0)) :: (some (.int .i64 ((i : Nat) : Int))) :: (some (.ptrO 0 0)) :: (some (.int .i64 a.kind)) :: (some (.ptrO 0 1)) :: (some (.int .i64 a.n)) :: (some (.ptrO 0 2)) :: (some (.int .i64 a.e)) :: (some (.slO 2 0 1 3 3 true)) :: (some (.ptrO 1 0)) :: (some (.int .i64 b.kind)) :: (some (.ptrO 1 1)) :: (some (.int .i64 b.n)) :: (some (.ptrO 1 2)) :: (some (.int .i64 b.e)) :: (some (.slO 3 0 1 3 3 true)) :: (some (.int .i64 0)) :: (some (.int .i64 0)) :: (some (.bool false)) :: none :: (some (.ptrO 0 3)) :: (some (.str a.s)) :: (some (.ptrO 1 3)) :: (some (.str b.s)) :: (some (.bool false)) :: none :: none :: none :: none :: none :: none :: none :: none :: (t.g 38) :: (t.g 39) :: (t.g 40) :: (t.g 41) :: (t.g 42) :: (t.g 43) :: (t.g 44) :: (t.g 45) :: (t.g 46) :: (t.g 47) :: (t.g 48) :: (t.g 49) :: (t.g 50) :: (t.g 51) :: (t.g 52) :: (t.g 53) :: (t.g 54) :: (t.g 55) :: (t.g 56) :: (t.g 57) :: (t.g 58) :: (t.g 59) :: (t.g 60) :: (t.g 61) :: (t.g 62) :: (t.g 63) :: (t.g 64) :: (t.g 65) :: (t.g 66) :: (t.g 67) :: (t.g 68) :: (t.g 69) :: (t.g 70) :: (t.g 71) :: (t.g 72) :: (t.g 73) :: (t.g 74) :: (t.g 75) :: (t.g 76) :: none :: none :: none :: none :: none :: none :: none :: none :: none :: none :: none :: none :: none :: none :: none :: none :: none :: none :: none :: none :: none :: none :: []) (hpL [bk 0 35 true 0 a.six, bk 1 35 true 0 b.six, bk 2 3 true 0 [.int .i64 a.kind, .int .i64 a.n, .int .i64 a.e], bk 3 3 true 0 [.int .i64 b.kind, .int .i64 b.n, .int .i64 b.e]]))) (fun i t => (True)) hlK1 ?_ ?_ ?_
  · exact Told.k (by kernel_rfl)
  · trivial
  · intro i2 t2 hi2 hI2
    refine W.seq ?_
    refine W.seq ?_
    refine W.region ?_
    refine WO.adv 3 (by kernel_rfl) ?_
    refine WO.opc (fun h => names_len (K := K) (h := h) (v := a)) (by kernel_rfl) ?_
    refine WO.adv 2 (by kernel_rfl) ?_
    refine splitB (decide (((i2 : Nat) : Int) < ((a.names.length : Nat) : Int))) (fun hb3 => ?_) (fun hb3 => ?_)
    · refine WO.sub 42 hb3 (by kernel_rfl) ?_
      refine WO.sub 43 hb3 (by kernel_rfl) ?_
      refine WO.adv 3 (by kernel_rfl) ?_
      refine WO.opc (fun h => names_len (K := K) (h := h) (v := b)) (by kernel_rfl) ?_
      refine WO.fin (by kernel_rfl) ?_
      have hb4 : (decide (((i2 : Nat) : Int) < ((b.names.length : Nat) : Int))) = true := lt_same (congrArg List.length hs.2.2.2.2.1) hb3
      refine W.sub 48 hb4 (by kernel_rfl) ?_
      refine W.sub 49 hb4 (by kernel_rfl) ?_
      refine W.cond true (by kernel_rfl) (fun _ => ?_) (fun h => by cases h)
      refine W.skip ?_
      refine W.seq ?_
      refine W.block ?_
      refine W.seq ?_
      refine W.drawn2 (by kernel_rfl) ?_
      refine WE.adv (j' := 3) 3 (by kernel_rfl) (by kernel_rfl) ?_
      refine WE.opq (fun h => names_at (K := K) (h := h) (v := a) (lt_of_dec hb3)) (by kernel_rfl) (by kernel_rfl) ?_
      refine WE.opl (fun h => name_get (K := K) (h := h) (v := a) (lt_of_dec hb3)) (by kernel_rfl) (by kernel_rfl) (by kernel_rfl) ?_
      refine WE.adv (j' := 8) 3 (by kernel_rfl) (by kernel_rfl) ?_
      refine WE.opq (fun h => names_at (K := K) (h := h) (v := b) (lt_of_dec hb4)) (by kernel_rfl) (by kernel_rfl) ?_
      refine WE.opl (fun h => name_get (K := K) (h := h) (v := b) (lt_of_dec hb4)) (by kernel_rfl) (by kernel_rfl) (by kernel_rfl) ?_
      refine WE.fin (by kernel_rfl) ?_
      have hb5 : (!(beqBytes (a.names.getD i2 []) (b.names.getD i2 []))) = false := bytes_no (by rw [hs.2.2.2.2.1])
      refine W.sub 62 hb5 (by kernel_rfl) ?_
      refine W.cond false (by kernel_rfl) (fun h => by cases h) (fun _ => ?_)
      refine W.skip ?_
      refine W.region ?_
      refine WO.fin (by kernel_rfl) ?_
      have hlt : i2 < a.names.length := ((lt_of_dec hb3))
      refine ⟨hlt, ?_, ?_⟩
      · trivial
      · refine Told.put 6 (wrapA hlt hlen1) (by kernel_rfl) ?_
        exact Told.k (by kernel_rfl)
    · refine WO.sub 42 hb3 (by kernel_rfl) ?_
      refine WO.sub 43 hb3 (by kernel_rfl) ?_
      refine WO.fin (by kernel_rfl) ?_
      refine W.cond false (by kernel_rfl) (fun h => by cases h) (fun _ => ?_)
      refine W.exit ?_
      refine blockQ ?_
      refine W.seq ?_
      refine W.seq ?_
      refine W.region ?_
      refine WO.adv 2 (by kernel_rfl) ?_
      refine WO.opc (fun h => names_len (K := K) (h := h) (v := a)) (by kernel_rfl) ?_
      refine WO.adv 2 (by kernel_rfl) ?_
      refine WO.opc (fun h => names_len (K := K) (h := h) (v := b)) (by kernel_rfl) ?_
      refine WO.fin (by kernel_rfl) ?_
      have hb6 : (((a.names.length : Nat) : Int) != ((b.names.length : Nat) : Int)) = false := len_no (congrArg List.length hs.2.2.2.2.1)
      refine W.sub 83 hb6 (by kernel_rfl) ?_
      refine W.cond false (by kernel_rfl) (fun h => by cases h) (fun _ => ?_)
      refine W.skip ?_
      refine W.seq ?_
      refine W.region ?_
      refine WO.adv 4 (by kernel_rfl) ?_
      refine WO.callp (by kernel_rfl) (hrec _) ?_
      refine WO.fin (by kernel_rfl) ?_
      refine W.ret ?_
      exact RetQ.k (v' := .int .i64 0) (by rfl) (by kernel_rfl) (by kernel_rfl)

theorem cmpVal_c (hK : big ≤ K) : ∀ (d : Nat) (a b : Val), a.dep ≤ d → a.ok → a.same b → ∀ n, 2 * d + 3 ≤ n → ∀ h, (fns (Cg K) n).call 74 [.agg a.six, .agg b.six] h none = some (.val (.int .i64 0) h none) := by
  intro d
  induction d with
  | zero => intro a b hd; cases a; rw [Val.dep] at hd; omega
  | succ d ih =>
    intro a b hd hv hs n hn h
    have hp := same_parts hs
    refine cmpVal_c1 (by omega) a b hv hK hp (fun m hm h => ?_) h
    refine cmpList_c (by omega) a b hv hK (sameL_len hp.2.2.2.2.2) (fun m2 hm2 i hi h => ?_) h
    exact ih _ _ (by have := dep_item a hi; omega) (ok_item hv hi) (sameL_at hp.2.2.2.2.2 hi) m2 (by omega) h
set_option maxRecDepth 20000 in
theorem sameVal_c {n : Nat} {d : Nat} (hn : 2 * d + 4 ≤ n) (a b : Val) (hd : a.dep ≤ d) (hv : a.ok) (hs : a.same b) (hK : big ≤ K)  (h : Heap) : (fns (Cg K) n).call 52 [.agg a.six, .agg b.six] h none = some (.val (.bool true) h none) := by
  obtain ⟨m, rfl⟩ : ∃ m, n = m + 1 := ⟨n - 1, by omega⟩
  refine pureq (C := Cg K) (F := fns (Cg K) m) (fn := Tryz.f52) (c := bodyOf Tryz.f52) (by kernel_rfl) (by kernel_rfl) (by kernel_rfl) (noL (aggSix _) (noL (aggSix _) rfl)) (by kernel_rfl) (by kernel_rfl) (by kernel_rfl) ?_ h
  refine W.seq ?_
  refine W.region ?_
  refine WO.fin (by kernel_rfl) ?_
  refine W.seq ?_
  refine W.region ?_
  refine WO.adv 2 (by kernel_rfl) ?_
  refine WO.callp (by kernel_rfl) (cmpVal_c hK d a b hd hv hs m (by omega) _) ?_
  refine WO.fin (by kernel_rfl) ?_
  refine W.ret ?_
  exact RetQ.k (v' := .bool true) (by rfl) (by kernel_rfl) (by kernel_rfl)

set_option maxRecDepth 20000 in
theorem sameEv_c {n : Nat} {d : Nat} (hn : 2 * d + 5 ≤ n) (a b : Ev) (hd : a.val.dep ≤ d) (hv : a.val.ok) (hs : a.same b) (hK : big ≤ K)  (h : Heap) : (fns (Cg K) n).call 25 [.agg a.elv, .agg b.elv] h none = some (.val (.bool true) h none) := by
  obtain ⟨m, rfl⟩ : ∃ m, n = m + 1 := ⟨n - 1, by omega⟩
  refine pureq (C := Cg K) (F := fns (Cg K) m) (fn := Tryz.f25) (c := bodyOf Tryz.f25) (by kernel_rfl) (by kernel_rfl) (by kernel_rfl) (noL (aggElv _) (noL (aggElv _) rfl)) (by kernel_rfl) (by kernel_rfl) (by kernel_rfl) ?_ h
  refine W.seq ?_
  refine W.region ?_
  refine WO.fin (by kernel_rfl) ?_
  refine W.seq ?_
  refine W.region ?_
  refine WO.adv 6 (by kernel_rfl) ?_
  have hb1 : (a.comp == b.comp) = true := beq_yes hs.comp
  refine WO.sub 9 hb1 (by kernel_rfl) ?_
  refine WO.sub 10 hb1 (by kernel_rfl) ?_
  refine WO.adv 7 (by kernel_rfl) ?_
  have hb2 : (a.kind == b.kind) = true := beq_yes hs.kind
  refine WO.sub 15 hb2 (by kernel_rfl) ?_
  refine WO.sub 16 hb2 (by kernel_rfl) ?_
  refine WO.sub 17 hb2 (by kernel_rfl) ?_
  refine WO.adv 7 (by kernel_rfl) ?_
  have hb3 : (beqBytes a.text b.text) = true := bytes_yes hs.text
  refine WO.sub 22 hb3 (by kernel_rfl) ?_
  refine WO.sub 23 hb3 (by kernel_rfl) ?_
  refine WO.sub 24 hb3 (by kernel_rfl) ?_
  refine WO.adv 7 (by kernel_rfl) ?_
  have hb4 : (beqBytes a.name b.name) = true := bytes_yes hs.name
  refine WO.sub 29 hb4 (by kernel_rfl) ?_
  refine WO.sub 30 hb4 (by kernel_rfl) ?_
  refine WO.sub 31 hb4 (by kernel_rfl) ?_
  refine WO.adv 7 (by kernel_rfl) ?_
  have hb5 : (a.other == b.other) = true := beq_yes hs.other
  refine WO.sub 36 hb5 (by kernel_rfl) ?_
  refine WO.sub 37 hb5 (by kernel_rfl) ?_
  refine WO.sub 38 hb5 (by kernel_rfl) ?_
  refine WO.adv 4 (by kernel_rfl) ?_
  refine WO.callp (by kernel_rfl) (sameVal_c (d := d) (by omega) a.val b.val hd hv hs.val hK _) ?_
  refine WO.fin (by kernel_rfl) ?_
  refine W.ret ?_
  exact RetQ.k (v' := .bool true) (by first | rfl | (simp [*])) (by kernel_rfl) (by kernel_rfl)

set_option maxRecDepth 20000 in
theorem sameEvs_c {n : Nat} {d : Nat} (hn : 2 * d + 6 ≤ n) (nn nk : Bool) (l k : List Ev) (hd : ∀ i, i < l.length → (l.getD i default).val.dep ≤ d ∧ (l.getD i default).val.ok) (hl : l.length < big) (hlk : l.length = k.length) (hs : ∀ i, i < l.length → (l.getD i default).same (k.getD i default)) (hK : big ≤ K)  (h : Heap) : (fns (Cg K) n).call 19 [(evsA nn l), (evsA nk k)] h none = some (.val (.bool true) h none) := by
  obtain ⟨m, rfl⟩ : ∃ m, n = m + 1 := ⟨n - 1, by omega⟩
  have hlen : l.length ≤ 9223372036854775807 := by unfold big at hl; omega
  have hlK : l.length < (Cg K).loops := by rw [loops_eq]; omega
  have hrec : ∀ i, i < l.length → ∀ h, (fns (Cg K) m).call 25 [.agg (l.getD i default).elv, .agg (k.getD i default).elv] h none = some (.val (.bool true) h none) := fun i hi h => sameEv_c (d := d) (by omega) _ _ (hd i hi).1 (hd i hi).2 (hs i hi) hK h
  refine pureq (C := Cg K) (F := fns (Cg K) m) (fn := Tryz.f19) (c := bodyOf Tryz.f19) (by kernel_rfl) (by kernel_rfl) (by kernel_rfl) (noL (evsD _ _) (noL (evsD _ _) rfl)) (by kernel_rfl) (by kernel_rfl) (by kernel_rfl) ?_ h
  refine W.seq ?_
  refine W.region ?_
  refine WO.fin (by kernel_rfl) ?_
  refine W.seq ?_
  refine W.seq ?_
  refine W.region ?_
  refine WO.adv 1 (by kernel_rfl) ?_
  refine WO.opc (fun h => evs_len (K := K) (h := h) (b := nn) (l := l)) (by kernel_rfl) ?_
  refine WO.adv 1 (by kernel_rfl) ?_
  refine WO.opc (fun h => evs_len (K := K) (h := h) (b := nk) (l := k)) (by kernel_rfl) ?_
  refine WO.fin (by kernel_rfl) ?_
  have hb1 : (((l.length : Nat) : Int) != ((k.length : Nat) : Int)) = false := len_no hlk
  refine W.sub 10 hb1 (by kernel_rfl) ?_
  refine W.cond false (by kernel_rfl) (fun h => by cases h) (fun _ => ?_)
  refine W.skip ?_
  refine W.seq ?_
  refine W.seq ?_
  refine W.region ?_
  refine WO.fin (by kernel_rfl) ?_
  refine W.block ?_
  refine W.loopc (len := l.length) (fun i t => (S 27 [some ((evsA nn l)), some ((evsA nk k)), none, none, (t.g 4), some (.int .i64 ((i : Nat) : Int)), some ((evsA nn l)), some (.int .i64 ((l.length : Nat) : Int)), some ((evsA nk k)), some (.int .i64 ((k.length : Nat) : Int)), some (.bool false), (t.g 11), (t.g 12), (t.g 13), (t.g 14), (t.g 15), (t.g 16), (t.g 17), (t.g 18), (t.g 19), (t.g 20), (t.g 21), (t.g 22), (t.g 23), (t.g 24), (t.g 25), (t.g 26)] (hpL []))) (fun i t => (True)) hlK ?_ ?_ ?_
  · exact Told.k (by kernel_rfl)
  · trivial
  · intro i2 t2 hi2 hI2
    refine W.seq ?_
    refine W.seq ?_
    refine W.region ?_
    refine WO.adv 2 (by kernel_rfl) ?_
    refine WO.opc (fun h => evs_len (K := K) (h := h) (b := nn) (l := l)) (by kernel_rfl) ?_
    refine WO.fin (by kernel_rfl) ?_
    refine W.cond (decide (((i2 : Nat) : Int) < ((l.length : Nat) : Int))) (by kernel_rfl) (fun hb3 => ?_) (fun hb3 => ?_)
    · refine W.sub 14 hb3 (by kernel_rfl) ?_
      refine W.skip ?_
      refine W.seq ?_
      refine W.block ?_
      refine W.seq ?_
      refine W.drawn2 (by kernel_rfl) ?_
      refine WE.adv (j' := 2) 2 (by kernel_rfl) (by kernel_rfl) ?_
      refine WE.opq (fun h => evs_at (K := K) (h := h) (b := nn) (lt_of_dec hb3)) (by kernel_rfl) (by kernel_rfl) ?_
      refine WE.opl (fun h => ev_elv (K := K) (h := h) (lt_of_dec hb3)) (by kernel_rfl) (by kernel_rfl) (by kernel_rfl) ?_
      refine WE.adv (j' := 6) 2 (by kernel_rfl) (by kernel_rfl) ?_
      refine WE.opq (fun h => evs_at (K := K) (h := h) (b := nk) (lt_of_dec (lt_same hlk hb3))) (by kernel_rfl) (by kernel_rfl) ?_
      refine WE.opl (fun h => ev_elv (K := K) (h := h) (lt_of_dec (lt_same hlk hb3))) (by kernel_rfl) (by kernel_rfl) (by kernel_rfl) ?_
      refine WE.callp (by kernel_rfl) (by kernel_rfl) (hrec i2 (lt_of_dec hb3) _) ?_
      refine WE.fin (by kernel_rfl) ?_
      refine W.cond false (by kernel_rfl) (fun h => by cases h) (fun _ => ?_)
      refine W.skip ?_
      refine W.region ?_
      refine WO.fin (by kernel_rfl) ?_
      have hlt : i2 < l.length := ((lt_of_dec hb3))
      refine ⟨hlt, ?_, ?_⟩
      · trivial
      · refine Told.put 5 (wrapA hlt hlen) (by kernel_rfl) ?_
        exact Told.k (by kernel_rfl)
    · refine W.sub 14 hb3 (by kernel_rfl) ?_
      refine W.exit ?_
      refine blockQ ?_
      refine W.seq ?_
      refine W.region ?_
      refine WO.fin (by kernel_rfl) ?_
      refine W.ret ?_
      exact RetQ.k (v' := .bool true) (by rfl) (by kernel_rfl) (by kernel_rfl)

end
end Go.Abs
