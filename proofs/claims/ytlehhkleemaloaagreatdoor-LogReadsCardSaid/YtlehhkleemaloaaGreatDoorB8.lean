/- A part of the proofs of the laws of logs: see the last text of this claim. -/
import Derived.Test.YtlehhkleemaloaaGreatDoorB7
namespace Go.Abs
noncomputable section
open Go Go.Proofs
variable {K : Nat}
theorem six_cv4 {a b c d x y z : AV} (h : x = z) : [a, b, c, d, x, y] = [a, b, c, d, z, y] := by rw [h]
theorem six_cv5 {a b c d x y z : AV} (h : y = z) : [a, b, c, d, x, y] = [a, b, c, d, x, z] := by rw [h]
theorem OwnR.plain {h : Heap} {x : AV} {e size n lo bd : Nat} {cs : List AV} (O : OwnR h x e size cs n lo bd) : plainA x = true ∧ x.cells = [x] := by
  rcases O.2.2 with ⟨rfl, _⟩ | ⟨id, b, rfl, _⟩ <;> exact ⟨rfl, rfl⟩
theorem store_o {C : Cfg} {h : Heap} {id g el ver t off : Nat} {wh : Bool} {x : AV} {cs cs' : List AV} (hg : h.get id = some (bk g el wh ver cs)) (hp : plainA x = true ∧ x.cells = [x]) (hx : (knownT C t && Nat.beq 1 (sizeT C t) && Nat.ble (Nat.add off 1) (lenN cs)) = true) (hc : setCells cs off [x] = cs') :
    opStore C h t (.ptrO id off) x = some (.tup [], h.set id (bk g el wh (Nat.succ ver) cs')) := by
  refine store_k hg ?_ (by rw [hp.2]; exact hc)
  rw [hp.1, hp.2]
  exact hx
theorem cF_lt {st : RS} {i : Nat} (h : ∀ j : Nat, j < i → ((j : Nat) : Int) < (cE st).1 ∧ (itL cName j ([], (cE st).2)).2.2 = false) (hw : (itL cName i ([], (cE st).2)).2.2 = false) : i < (cE st).2.1.length + 1 := by
  have := it_lt (r := ([], (cE st).2)) name_go h hw
  exact this
theorem cH_lt {d : Nat} {st : RS} {i : Nat} (h : ∀ j : Nat, j < i → ((j : Nat) : Int) < (cG st).1 ∧ (itL (cVal d) j ([], (cG st).2)).2.2 = false) (hw : (itL (cVal d) i ([], (cG st).2)).2.2 = false) : i < (cG st).2.1.length + 1 := by
  have := it_lt (r := ([], (cG st).2)) (val_go d) h hw
  exact this
theorem nm_le {st : RS} (hl : st.1.length ≤ 4000) (i : Nat) : (itL cName i ([], (cE st).2)).2.1.length ≤ 4000 := by
  have h1 := it_le (B := cName) cName_len ([], (cE st).2) i
  have h2 := @cE_le st
  have h1 : (itL cName i ([], (cE st).2)).2.1.length ≤ (cE st).2.1.length := h1
  omega
theorem vl_le {d : Nat} {st : RS} (hl : st.1.length ≤ 4000) (i : Nat) : (itL (cVal d) i ([], (cG st).2)).2.1.length ≤ 4000 := by
  have h1 := it_le (B := cVal d) (fun a => cVal_len d a) ([], (cG st).2) i
  have h2 := @cG_le st
  have h1 : (itL (cVal d) i ([], (cG st).2)).2.1.length ≤ (cG st).2.1.length := h1
  omega
/-- the program's reader of values, up to a depth -/
def ValOk (K d : Nat) : Prop := ∀ (n : Nat), d + 8 ≤ n → ∀ (st : RS), st.1.length < d → st.1.length ≤ 4000 → ∀ (i g ver : Nat) (h : Heap), h.get i = some (bk g 83 true ver [.str st.1, .bool st.2]) →
  (fns (Cg K) n).call 47 [.ptrO i 0] h none = some (.val (.agg (cVal d st).1.six) (h.set i (bk g 83 true (Nat.succ ver) [.str (cVal d st).2.1, .bool (cVal d st).2.2])) none)
set_option maxHeartbeats 4000000 in
set_option maxRecDepth 20000 in
theorem rdVal_step {d : Nat} (hK : big ≤ K) (ih : ValOk K d) : ValOk K (d + 1) := by
  intro n hn st hd hl i g ver h hg
  obtain ⟨m, rfl⟩ : ∃ m, n = m + 1 := ⟨n - 1, by omega⟩
  have hlA : (cA st).2.1.length ≤ 4000 := Nat.le_trans (@cA_le st) hl
  have hlB : (cB st).2.1.length ≤ 4000 := Nat.le_trans (@cB_le st) hl
  have hlC : (cC st).2.1.length ≤ 4000 := Nat.le_trans (@cC_le st) hl
  have hlD : (cD st).2.1.length ≤ 4000 := Nat.le_trans (@cD_le st) hl
  have hlE : (cE st).2.1.length ≤ 4000 := Nat.le_trans (@cE_le st) hl
  have hlF : (cF st).2.1.length ≤ 4000 := Nat.le_trans (@cF_le st) hl
  have hlG : (cG st).2.1.length ≤ 4000 := Nat.le_trans (@cG_le st) hl
  have hE : (cE st).2.1.length ≤ 4000 := Nat.le_trans cE_le hl
  have hG : (cG st).2.1.length ≤ 4000 := Nat.le_trans cG_le hl
  have hH : (cH (cVal d) st).2.1.length ≤ 4000 := by unfold cH; exact Nat.le_trans (cLoop_len (fun a => cVal_len d a) _ _ _) hG
  have hlen1 : (cE st).2.1.length + 1 ≤ 9223372036854775807 := by omega
  have hlK1 : (cE st).2.1.length + 1 < (Cg K).loops := by rw [loops_eq]; unfold big at hK; omega
  have hlen2 : (cG st).2.1.length + 1 ≤ 9223372036854775807 := by omega
  have hlK2 : (cG st).2.1.length + 1 < (Cg K).loops := by rw [loops_eq]; unfold big at hK; omega
  refine ownf_of (y := (.ptrO 0 0)) (C := Cg K) (F := fns (Cg K) m) (fn := Tryz.f47) (c := bodyOf Tryz.f47) (by kernel_rfl) (by kernel_rfl) (by kernel_rfl) hg (by kernel_rfl) (by kernel_rfl) (by kernel_rfl) (by kernel_rfl) (by kernel_rfl) (by kernel_rfl) ?_
  refine W.seq ?_
  refine W.region ?_
  refine WO.fin (by kernel_rfl) ?_
  refine W.seq ?_
  refine W.region ?_
  refine WO.fin (by kernel_rfl) ?_
  refine W.seq ?_
  refine W.region ?_
  refine WO.adv 1 (by kernel_rfl) ?_
  refine WO.callh (by kernel_rfl) rfl (sign_c (n := m) (by omega) (st := st) [118] (i := 0) (g := 0) (ver := 0)  (by kernel_rfl)) ?_
  refine WO.nil ?_
  refine W.seq ?_
  refine W.region ?_
  refine WO.adv 1 (by kernel_rfl) ?_
  refine WO.callh (by kernel_rfl) rfl (rdNumber_c (n := m) (by omega) (st := (cSign [118] st)) [44] (sg_le hl) (i := 0) (g := 0) (ver := (Nat.succ 0))  (by kernel_rfl)) ?_
  refine WO.adv 1 (by kernel_rfl) ?_
  refine WO.callh (by kernel_rfl) rfl (rdNumber_c (n := m) (by omega) (st := ((cA st).2)) [44] hlA (i := 0) (g := 0) (ver := (Nat.succ (Nat.succ 0)))  (by kernel_rfl)) ?_
  refine WO.adv 1 (by kernel_rfl) ?_
  refine WO.callh (by kernel_rfl) rfl (rdNumber_c (n := m) (by omega) (st := ((cB st).2)) [44] hlB (i := 0) (g := 0) (ver := (Nat.succ (Nat.succ (Nat.succ 0))))  (by kernel_rfl)) ?_
  refine WO.fin (by kernel_rfl) ?_
  refine W.seq ?_
  refine W.region ?_
  refine WO.adv 1 (by kernel_rfl) ?_
  refine WO.callh (by kernel_rfl) rfl (rdText_c (n := m) (by omega) (st := ((cC st).2)) hlC (i := 0) (g := 0) (ver := (Nat.succ (Nat.succ (Nat.succ (Nat.succ 0)))))  (by kernel_rfl)) ?_
  refine WO.fin (by kernel_rfl) ?_
  refine W.seq ?_
  refine W.region ?_
  refine WO.adv 1 (by kernel_rfl) ?_
  refine WO.callh (by kernel_rfl) rfl (sign_c (n := m) (by omega) (st := ((cD st).2)) [44] (i := 0) (g := 0) (ver := (Nat.succ (Nat.succ (Nat.succ (Nat.succ (Nat.succ 0))))))  (by kernel_rfl)) ?_
  refine WO.nil ?_
  refine W.seq ?_
  refine W.region ?_
  refine WO.adv 1 (by kernel_rfl) ?_
  refine WO.callh (by kernel_rfl) rfl (rdNumber_c (n := m) (by omega) (st := (cSign [44] (cD st).2)) [] (sg_le hlD) (i := 0) (g := 0) (ver := (Nat.succ (Nat.succ (Nat.succ (Nat.succ (Nat.succ (Nat.succ 0)))))))  (by kernel_rfl)) ?_
  refine WO.fin (by kernel_rfl) ?_
  refine W.seq ?_
  refine W.seq ?_
  refine W.region ?_
  refine WO.fin (by kernel_rfl) ?_
  refine W.block ?_
  refine W.loopc (len := ((cE st).2.1.length + 1)) (fun i t => (S 88 ((some (.ptrO 0 0)) :: none :: (some (.ptrO 1 0)) :: (some (.ptrO 2 0)) :: (some (.int .i64 ((cE st).1))) :: (some (.int .i64 ((i : Nat) : Int))) :: none :: none :: (some (.ptrO 0 0)) :: (some (.tup [])) :: (some (.ptrO 0 0)) :: (some (.int .i64 ((cA st).1))) :: (some (.ptrO 0 0)) :: (some (.int .i64 ((cB st).1))) :: (some (.ptrO 0 0)) :: (some (.int .i64 ((cC st).1))) :: (some (.ptrO 2 0)) :: (some (.ptrO 2 1)) :: (some (.ptrO 2 2)) :: (some (.ptrO 0 0)) :: (some (.str ((cD st).1))) :: (some (.ptrO 2 3)) :: (some (.ptrO 0 0)) :: (some (.tup [])) :: (some (.ptrO 0 0)) :: (some (.int .i64 ((cE st).1))) :: (t.g 26) :: (t.g 27) :: (t.g 28) :: (t.g 29) :: (t.g 30) :: (t.g 31) :: (t.g 32) :: (t.g 33) :: (t.g 34) :: (t.g 35) :: (t.g 36) :: (t.g 37) :: (t.g 38) :: (t.g 39) :: (t.g 40) :: (t.g 41) :: (t.g 42) :: (t.g 43) :: (t.g 44) :: (t.g 45) :: (t.g 46) :: none :: none :: none :: none :: none :: none :: none :: none :: none :: none :: none :: none :: none :: none :: none :: none :: none :: none :: none :: none :: none :: none :: none :: none :: none :: none :: none :: none :: none :: none :: none :: none :: none :: none :: none :: none :: none :: none :: none :: none :: none :: []) t.h)) (fun i t => (OwnT t.h (t.cv 2 4) (itL cName i ([], (cE st).2)).1 3 t.h.next ∧ ∀ j : Nat, j < i → ((j : Nat) : Int) < (cE st).1 ∧ (itL cName j ([], (cE st).2)).2.2 = false) ∧ (t.h.get 0 = some (bk 0 83 true (t.vr 0) [.str ((itL cName i ([], (cE st).2)).2.1), .bool ((itL cName i ([], (cE st).2)).2.2)])) ∧ (t.h.get 1 = some (bk 1 35 true (t.vr 1) [.int .i64 0, .int .i64 0, .int .i64 0, .str [], .nils, .nils])) ∧ (t.h.get 2 = some (bk 2 35 true (t.vr 2) [.int .i64 ((cA st).1), .int .i64 ((cB st).1), .int .i64 ((cC st).1), .str ((cD st).1), (t.cv 2 4), .nils])) ∧ (3 ≤ t.h.next)) hlK1 ?_ ?_ ?_
  · exact Told.k (by kernel_rfl)
  · refine ⟨?_, hv_fact (h := (hpL [bk 0 83 true (Nat.succ (Nat.succ (Nat.succ (Nat.succ (Nat.succ (Nat.succ (Nat.succ 0))))))) [.str ((cE st).2.1), .bool ((cE st).2.2)], bk 1 35 true 0 [.int .i64 0, .int .i64 0, .int .i64 0, .str [], .nils, .nils], bk 2 35 true 4 [.int .i64 ((cA st).1), .int .i64 ((cB st).1), .int .i64 ((cC st).1), .str ((cD st).1), .nils, .nils]])) (ver := (Nat.succ (Nat.succ (Nat.succ (Nat.succ (Nat.succ (Nat.succ (Nat.succ 0)))))))) (cs := [.str ((cE st).2.1), .bool ((cE st).2.2)]) (by kernel_rfl) (by kernel_rfl) (by rfl), hv_fact (h := (hpL [bk 0 83 true (Nat.succ (Nat.succ (Nat.succ (Nat.succ (Nat.succ (Nat.succ (Nat.succ 0))))))) [.str ((cE st).2.1), .bool ((cE st).2.2)], bk 1 35 true 0 [.int .i64 0, .int .i64 0, .int .i64 0, .str [], .nils, .nils], bk 2 35 true 4 [.int .i64 ((cA st).1), .int .i64 ((cB st).1), .int .i64 ((cC st).1), .str ((cD st).1), .nils, .nils]])) (ver := 0) (cs := [.int .i64 0, .int .i64 0, .int .i64 0, .str [], .nils, .nils]) (by kernel_rfl) (by kernel_rfl) (by rfl), hv_fact (h := (hpL [bk 0 83 true (Nat.succ (Nat.succ (Nat.succ (Nat.succ (Nat.succ (Nat.succ (Nat.succ 0))))))) [.str ((cE st).2.1), .bool ((cE st).2.2)], bk 1 35 true 0 [.int .i64 0, .int .i64 0, .int .i64 0, .str [], .nils, .nils], bk 2 35 true 4 [.int .i64 ((cA st).1), .int .i64 ((cB st).1), .int .i64 ((cC st).1), .str ((cD st).1), .nils, .nils]])) (ver := 4) (cs := [.int .i64 ((cA st).1), .int .i64 ((cB st).1), .int .i64 ((cC st).1), .str ((cD st).1), .nils, .nils]) (by kernel_rfl) (by kernel_rfl) (by exact six_cv4 (cv_of (h := (hpL [bk 0 83 true (Nat.succ (Nat.succ (Nat.succ (Nat.succ (Nat.succ (Nat.succ (Nat.succ 0))))))) [.str ((cE st).2.1), .bool ((cE st).2.2)], bk 1 35 true 0 [.int .i64 0, .int .i64 0, .int .i64 0, .str [], .nils, .nils], bk 2 35 true 4 [.int .i64 ((cA st).1), .int .i64 ((cB st).1), .int .i64 ((cC st).1), .str ((cD st).1), .nils, .nils]])) (b := bk 2 35 true 4 [.int .i64 ((cA st).1), .int .i64 ((cB st).1), .int .i64 ((cC st).1), .str ((cD st).1), .nils, .nils]) (by kernel_rfl) (by kernel_rfl) rfl)), hv_next (h := (hpL [bk 0 83 true (Nat.succ (Nat.succ (Nat.succ (Nat.succ (Nat.succ (Nat.succ (Nat.succ 0))))))) [.str ((cE st).2.1), .bool ((cE st).2.2)], bk 1 35 true 0 [.int .i64 0, .int .i64 0, .int .i64 0, .str [], .nils, .nils], bk 2 35 true 4 [.int .i64 ((cA st).1), .int .i64 ((cB st).1), .int .i64 ((cC st).1), .str ((cD st).1), .nils, .nils]])) (by kernel_rfl) (by exact Nat.le_of_ble_eq_true (by kernel_rfl))⟩
    exact ⟨OwnT.at (h := (hpL [bk 0 83 true (Nat.succ (Nat.succ (Nat.succ (Nat.succ (Nat.succ (Nat.succ (Nat.succ 0))))))) [.str ((cE st).2.1), .bool ((cE st).2.2)], bk 1 35 true 0 [.int .i64 0, .int .i64 0, .int .i64 0, .str [], .nils, .nils], bk 2 35 true 4 [.int .i64 ((cA st).1), .int .i64 ((cB st).1), .int .i64 ((cC st).1), .str ((cD st).1), .nils, .nils]])) (x := .nils) (l := []) (b := bk 2 35 true 4 [.int .i64 ((cA st).1), .int .i64 ((cB st).1), .int .i64 ((cC st).1), .str ((cD st).1), .nils, .nils]) (by kernel_rfl) (by kernel_rfl) rfl rfl (OwnR.nil _ _ _ (Nat.le_of_ble_eq_true (by kernel_rfl))), fun j hj => by omega⟩
  · rintro i1 t1 hi1 ⟨hI1, hg0_i1, hg1_i1, hg2_i1, hnx_i1⟩
    refine W.seq ?_
    refine W.seq ?_
    refine W.region ?_
    refine WO.adv 4 (by kernel_rfl) ?_
    refine splitB (decide (((i1 : Nat) : Int) < (cE st).1)) (fun hb2 => ?_) (fun hb2 => ?_)
    · refine WO.sub 28 hb2 (by kernel_rfl) ?_
      refine WO.sub 29 hb2 (by kernel_rfl) ?_
      refine WO.adv 3 (by kernel_rfl) ?_
      refine WO.opk (y := keep t1.h (opLoad (Cg K) t1.h 4 (.ptrO 0 1))) (x := .bool ((itL cName i1 ([], (cE st).2)).2.2)) (h' := t1.h) (load_k hg0_i1 (by kernel_rfl)) (by kernel_rfl) ?_
      refine WO.fin (by kernel_rfl) ?_
      refine W.cond (!((itL cName i1 ([], (cE st).2)).2.2)) (by kernel_rfl) (fun hb3 => ?_) (fun hb3 => ?_)
      · refine W.sub 34 hb3 (by kernel_rfl) ?_
        refine W.sub 35 hb3 (by kernel_rfl) ?_
        refine W.skip ?_
        refine W.seq ?_
        refine W.block ?_
        refine W.seq ?_
        refine W.region ?_
        refine WO.adv 1 (by kernel_rfl) ?_
        refine WO.callh (by kernel_rfl) (by kernel_rfl) (sign_c (n := m) (by omega) (st := ((itL cName i1 ([], (cE st).2)).2)) [44] (i := 0) (g := 0) (ver := (t1.vr 0)) (h := t1.h) hg0_i1) ?_
        refine WO.nil ?_
        refine W.drawn2 (by kernel_rfl) ?_
        refine WE.adv (j' := 1) 1 (by kernel_rfl) (by kernel_rfl) ?_
        refine WE.opr (y := keep (t1.h.set 0 (bk 0 83 true (Nat.succ (t1.vr 0)) [.str ((cSign [44] ((itL cName i1 ([], (cE st).2)).2)).1), .bool ((cSign [44] ((itL cName i1 ([], (cE st).2)).2)).2)])) (opLoad (Cg K) (t1.h.set 0 (bk 0 83 true (Nat.succ (t1.vr 0)) [.str ((cSign [44] ((itL cName i1 ([], (cE st).2)).2)).1), .bool ((cSign [44] ((itL cName i1 ([], (cE st).2)).2)).2)])) 29 (.ptrO 2 4))) (x := (t1.cv 2 4)) (id := 2) (by kernel_rfl) (load_k (gso (by omega) hg2_i1) (by kernel_rfl)) (by kernel_rfl) (by kernel_rfl) (by kernel_rfl) ?_
        refine WE.adv (j' := 3) 1 (by kernel_rfl) (by kernel_rfl) ?_
        refine WE.callh (by kernel_rfl) (by kernel_rfl) (by kernel_rfl) (rdText_c (n := m) (by omega) (st := (cSign [44] ((itL cName i1 ([], (cE st).2)).2))) (sg_le (nm_le hl i1)) (i := 0) (g := 0) (ver := (Nat.succ (t1.vr 0))) (h := (t1.h.set 0 (bk 0 83 true (Nat.succ (t1.vr 0)) [.str ((cSign [44] ((itL cName i1 ([], (cE st).2)).2)).1), .bool ((cSign [44] ((itL cName i1 ([], (cE st).2)).2)).2)]))) gss) ?_
        refine WE.opa (y := some (.slO t1.h.next 0 1 1 1 true, (((t1.h.set 0 (bk 0 83 true (Nat.succ (t1.vr 0)) [.str ((cSign [44] ((itL cName i1 ([], (cE st).2)).2)).1), .bool ((cSign [44] ((itL cName i1 ([], (cE st).2)).2)).2)])).set 0 (bk 0 83 true (Nat.succ (Nat.succ (t1.vr 0))) [.str ((cText (cSign [44] ((itL cName i1 ([], (cE st).2)).2))).2.1), .bool ((cText (cSign [44] ((itL cName i1 ([], (cE st).2)).2))).2.2)])).new 9 true [.str ((cText (cSign [44] ((itL cName i1 ([], (cE st).2)).2))).1)]))) rfl (by kernel_rfl) (by kernel_rfl) ?_
        obtain ⟨x4, h4, he4, hO4, hK4⟩ := append_t (K := K) (h := (((t1.h.set 0 (bk 0 83 true (Nat.succ (t1.vr 0)) [.str ((cSign [44] ((itL cName i1 ([], (cE st).2)).2)).1), .bool ((cSign [44] ((itL cName i1 ([], (cE st).2)).2)).2)])).set 0 (bk 0 83 true (Nat.succ (Nat.succ (t1.vr 0))) [.str ((cText (cSign [44] ((itL cName i1 ([], (cE st).2)).2))).2.1), .bool ((cText (cSign [44] ((itL cName i1 ([], (cE st).2)).2))).2.2)])).new 9 true [.str ((cText (cSign [44] ((itL cName i1 ([], (cE st).2)).2))).1)])) (v := (t1.cv 2 4)) (l := (itL cName i1 ([], (cE st).2)).1) (id := t1.h.next) (g := t1.h.next) (ver := 0) (s := ((cText (cSign [44] ((itL cName i1 ([], (cE st).2)).2))).1)) (OwnR.new (OwnR.set (j := 0) (Or.inl (by omega)) (OwnR.set (j := 0) (Or.inl (by omega)) hI1.1))) (by have h1 : (itL cName i1 ([], (cE st).2)).1.length = 0 + i1 := it_cnt (B := cName) _ i1; omega) gnew
        have hn4 := hK4.1
        simp only [nnew, nset] at hn4
        refine WE.opm he4 (by kernel_rfl) (by kernel_rfl) ?_
        refine WE.adv (j' := 7) 1 (by kernel_rfl) (by kernel_rfl) ?_
        refine WE.opm (y := opStore (Cg K) h4 29 (.ptrO 2 4) (x4)) (x := .tup []) (h' := (h4.set 2 (bk 2 35 true (Nat.succ (t1.vr 2)) [.int .i64 ((cA st).1), .int .i64 ((cB st).1), .int .i64 ((cC st).1), .str ((cD st).1), x4, .nils]))) (store_o (hK4.2 2 _ (gnewo (by first | omega | (simp only [nnew, nset]; omega)) (gso (by omega) (gso (by omega) hg2_i1))) (by first | omega | (simp only [nnew, nset]; omega)) (show 2 < 3 by omega)) (OwnR.plain hO4) (by kernel_rfl) (by kernel_rfl)) (by kernel_rfl) (by kernel_rfl) ?_
        refine WE.finm (id := 2) (jc := 3) (jm := 4) (n0 := t1.h.next) (B := bk 2 35 true (t1.vr 2) [.int .i64 ((cA st).1), .int .i64 ((cB st).1), .int .i64 ((cC st).1), .str ((cD st).1), (t1.cv 2 4), .nils]) (h := (t1.h.set 0 (bk 0 83 true (Nat.succ (t1.vr 0)) [.str ((cSign [44] ((itL cName i1 ([], (cE st).2)).2)).1), .bool ((cSign [44] ((itL cName i1 ([], (cE st).2)).2)).2)]))) (h' := ((t1.h.set 0 (bk 0 83 true (Nat.succ (t1.vr 0)) [.str ((cSign [44] ((itL cName i1 ([], (cE st).2)).2)).1), .bool ((cSign [44] ((itL cName i1 ([], (cE st).2)).2)).2)])).set 0 (bk 0 83 true (Nat.succ (Nat.succ (t1.vr 0))) [.str ((cText (cSign [44] ((itL cName i1 ([], (cE st).2)).2))).2.1), .bool ((cText (cSign [44] ((itL cName i1 ([], (cE st).2)).2))).2.2)]))) (by kernel_rfl) (by kernel_rfl) (by kernel_rfl) (vblk_refl (OwnR.flat (h := (t1.h.set 0 (bk 0 83 true (Nat.succ (t1.vr 0)) [.str ((cSign [44] ((itL cName i1 ([], (cE st).2)).2)).1), .bool ((cSign [44] ((itL cName i1 ([], (cE st).2)).2)).2)]))) (k := 63) (OwnR.set (j := 0) (Or.inl (by omega)) hI1.1)) rfl) (gso (by omega) hg2_i1) (gso (by omega) (gso (by omega) hg2_i1)) (by omega) ?_
        refine W.region ?_
        refine WO.fin (by kernel_rfl) ?_
        have hlt : i1 < ((cE st).2.1.length + 1) := (cF_lt (st := st) (i := i1) hI1.2 (by simpa using hb3))
        refine ⟨hlt, ⟨?_, hv_fact (h := (h4.set 2 (bk 2 35 true (Nat.succ (t1.vr 2)) [.int .i64 ((cA st).1), .int .i64 ((cB st).1), .int .i64 ((cC st).1), .str ((cD st).1), x4, .nils]))) (ver := (Nat.succ (Nat.succ (t1.vr 0)))) (cs := [.str ((cText (cSign [44] ((itL cName i1 ([], (cE st).2)).2))).2.1), .bool ((cText (cSign [44] ((itL cName i1 ([], (cE st).2)).2))).2.2)]) (by kernel_rfl) (gso (by omega) (hK4.2 0 _ (gnewo (by first | omega | (simp only [nnew, nset]; omega)) gss) (by first | omega | (simp only [nnew, nset]; omega)) (show 0 < 3 by omega))) (by rw [itL_succ]; first | done | rfl), hv_fact (h := (h4.set 2 (bk 2 35 true (Nat.succ (t1.vr 2)) [.int .i64 ((cA st).1), .int .i64 ((cB st).1), .int .i64 ((cC st).1), .str ((cD st).1), x4, .nils]))) (ver := (t1.vr 1)) (cs := [.int .i64 0, .int .i64 0, .int .i64 0, .str [], .nils, .nils]) (by kernel_rfl) (gso (by omega) (hK4.2 1 _ (gnewo (by first | omega | (simp only [nnew, nset]; omega)) (gso (by omega) (gso (by omega) hg1_i1))) (by first | omega | (simp only [nnew, nset]; omega)) (show 1 < 3 by omega))) (by rfl), hv_fact (h := (h4.set 2 (bk 2 35 true (Nat.succ (t1.vr 2)) [.int .i64 ((cA st).1), .int .i64 ((cB st).1), .int .i64 ((cC st).1), .str ((cD st).1), x4, .nils]))) (ver := (Nat.succ (t1.vr 2))) (cs := [.int .i64 ((cA st).1), .int .i64 ((cB st).1), .int .i64 ((cC st).1), .str ((cD st).1), x4, .nils]) (by kernel_rfl) gss (by exact six_cv4 (cv_of (h := (h4.set 2 (bk 2 35 true (Nat.succ (t1.vr 2)) [.int .i64 ((cA st).1), .int .i64 ((cB st).1), .int .i64 ((cC st).1), .str ((cD st).1), x4, .nils]))) (b := bk 2 35 true (Nat.succ (t1.vr 2)) [.int .i64 ((cA st).1), .int .i64 ((cB st).1), .int .i64 ((cC st).1), .str ((cD st).1), x4, .nils]) (by kernel_rfl) gss rfl)), hv_next (h := (h4.set 2 (bk 2 35 true (Nat.succ (t1.vr 2)) [.int .i64 ((cA st).1), .int .i64 ((cB st).1), .int .i64 ((cC st).1), .str ((cD st).1), x4, .nils]))) (by kernel_rfl) (by first | omega | (simp only [nnew, nset]; omega))⟩, ?_⟩
        · exact ⟨OwnT.at (h := (h4.set 2 (bk 2 35 true (Nat.succ (t1.vr 2)) [.int .i64 ((cA st).1), .int .i64 ((cB st).1), .int .i64 ((cC st).1), .str ((cD st).1), x4, .nils]))) (x := x4) (b := bk 2 35 true (Nat.succ (t1.vr 2)) [.int .i64 ((cA st).1), .int .i64 ((cB st).1), .int .i64 ((cC st).1), .str ((cD st).1), x4, .nils]) (by kernel_rfl) gss rfl (by rw [itL_succ]; first | done | rfl) (OwnR.grow (OwnR.set (j := 2) (Or.inl (by omega)) hO4)), fun j hj => by rcases Nat.lt_succ_iff_lt_or_eq.1 hj with h | rfl; exact hI1.2 j h; exact ⟨of_decide_eq_true hb2, (by simpa using hb3)⟩⟩
        · refine Told.put 5 (wrapA hlt hlen1) (by kernel_rfl) ?_
          exact Told.k (by kernel_rfl)
      · refine W.sub 34 hb3 (by kernel_rfl) ?_
        refine W.sub 35 hb3 (by kernel_rfl) ?_
        refine W.exit ?_
        have hF5 := cF_eq (st := st) (i := i1) hI1.2 (.inr (by simpa using hb3))
        have hz5 : t1.h.get 0 = some (bk 0 83 true (t1.vr 0) [.str ((cF st).2.1), .bool ((cF st).2.2)]) := by rw [← hF5]; exact hg0_i1
        have hy5 : OwnT t1.h (t1.cv 2 4) (cF st).1 3 t1.h.next := by rw [← hF5]; exact hI1.1
        refine blockQ ?_
        refine W.seq ?_
        refine W.region ?_
        refine WO.adv 1 (by kernel_rfl) ?_
        refine WO.callh (by kernel_rfl) (by kernel_rfl) (sign_c (n := m) (by omega) (st := ((cF st).2)) [44] (i := 0) (g := 0) (ver := (t1.vr 0)) (h := t1.h) hz5) ?_
        refine WO.nil ?_
        refine W.seq ?_
        refine W.region ?_
        refine WO.adv 1 (by kernel_rfl) ?_
        refine WO.callh (by kernel_rfl) (by kernel_rfl) (rdNumber_c (n := m) (by omega) (st := (cSign [44] (cF st).2)) [] (sg_le hlF) (i := 0) (g := 0) (ver := (Nat.succ (t1.vr 0))) (h := (t1.h.set 0 (bk 0 83 true (Nat.succ (t1.vr 0)) [.str ((cSign [44] (cF st).2).1), .bool ((cSign [44] (cF st).2).2)]))) gss) ?_
        refine WO.fin (by kernel_rfl) ?_
        refine W.seq ?_
        refine W.seq ?_
        refine W.region ?_
        refine WO.fin (by kernel_rfl) ?_
        refine W.block ?_
        refine W.loopc (len := ((cG st).2.1.length + 1)) (fun i t => (S 88 ((some (.ptrO 0 0)) :: none :: (some (.ptrO 1 0)) :: (some (.ptrO 2 0)) :: (some (.int .i64 ((cE st).1))) :: (some (.int .i64 ((i1 : Nat) : Int))) :: (some (.int .i64 ((cG st).1))) :: (some (.int .i64 ((i : Nat) : Int))) :: (some (.ptrO 0 0)) :: (some (.tup [])) :: (some (.ptrO 0 0)) :: (some (.int .i64 ((cA st).1))) :: (some (.ptrO 0 0)) :: (some (.int .i64 ((cB st).1))) :: (some (.ptrO 0 0)) :: (some (.int .i64 ((cC st).1))) :: (some (.ptrO 2 0)) :: (some (.ptrO 2 1)) :: (some (.ptrO 2 2)) :: (some (.ptrO 0 0)) :: (some (.str ((cD st).1))) :: (some (.ptrO 2 3)) :: (some (.ptrO 0 0)) :: (some (.tup [])) :: (some (.ptrO 0 0)) :: (some (.int .i64 ((cE st).1))) :: (some (.int .i64 ((i1 : Nat) : Int))) :: (some (.int .i64 ((cE st).1))) :: (some (.bool true)) :: (some (.bool true)) :: (some (.ptrO 0 0)) :: (some (.ptrO 0 0)) :: (some (.ptrO 0 1)) :: (some (.bool ((itL cName i1 ([], (cE st).2)).2.2))) :: (some (.bool false)) :: (some (.bool false)) :: (t.g 36) :: (t.g 37) :: (t.g 38) :: (t.g 39) :: (t.g 40) :: (t.g 41) :: (t.g 42) :: (t.g 43) :: (t.g 44) :: (t.g 45) :: (t.g 46) :: (some (.ptrO 0 0)) :: (some (.tup [])) :: (some (.ptrO 0 0)) :: (some (.int .i64 ((cG st).1))) :: (t.g 51) :: (t.g 52) :: (t.g 53) :: (t.g 54) :: (t.g 55) :: (t.g 56) :: (t.g 57) :: (t.g 58) :: (t.g 59) :: (t.g 60) :: (t.g 61) :: (t.g 62) :: (t.g 63) :: (t.g 64) :: (t.g 65) :: (t.g 66) :: (t.g 67) :: (t.g 68) :: (t.g 69) :: none :: none :: none :: none :: none :: none :: none :: none :: none :: none :: none :: none :: none :: none :: none :: none :: none :: none :: []) t.h)) (fun i t => (OwnV t.h (t.cv 2 5) (itL (cVal d) i ([], (cG st).2)).1 t1.h.next t.h.next ∧ OwnT t.h (t1.cv 2 4) (cF st).1 3 t1.h.next ∧ ∀ j : Nat, j < i → ((j : Nat) : Int) < (cG st).1 ∧ (itL (cVal d) j ([], (cG st).2)).2.2 = false) ∧ (t.h.get 0 = some (bk 0 83 true (t.vr 0) [.str ((itL (cVal d) i ([], (cG st).2)).2.1), .bool ((itL (cVal d) i ([], (cG st).2)).2.2)])) ∧ (t.h.get 1 = some (bk 1 35 true (t.vr 1) [.int .i64 0, .int .i64 0, .int .i64 0, .str [], .nils, .nils])) ∧ (t.h.get 2 = some (bk 2 35 true (t.vr 2) [.int .i64 ((cA st).1), .int .i64 ((cB st).1), .int .i64 ((cC st).1), .str ((cD st).1), (t1.cv 2 4), (t.cv 2 5)])) ∧ (3 ≤ t.h.next)) hlK2 ?_ ?_ ?_
        · exact Told.k (by kernel_rfl)
        · refine ⟨?_, hv_fact (h := ((t1.h.set 0 (bk 0 83 true (Nat.succ (t1.vr 0)) [.str ((cSign [44] (cF st).2).1), .bool ((cSign [44] (cF st).2).2)])).set 0 (bk 0 83 true (Nat.succ (Nat.succ (t1.vr 0))) [.str ((cG st).2.1), .bool ((cG st).2.2)]))) (ver := (Nat.succ (Nat.succ (t1.vr 0)))) (cs := [.str ((cG st).2.1), .bool ((cG st).2.2)]) (by kernel_rfl) gss (by rfl), hv_fact (h := ((t1.h.set 0 (bk 0 83 true (Nat.succ (t1.vr 0)) [.str ((cSign [44] (cF st).2).1), .bool ((cSign [44] (cF st).2).2)])).set 0 (bk 0 83 true (Nat.succ (Nat.succ (t1.vr 0))) [.str ((cG st).2.1), .bool ((cG st).2.2)]))) (ver := (t1.vr 1)) (cs := [.int .i64 0, .int .i64 0, .int .i64 0, .str [], .nils, .nils]) (by kernel_rfl) (gso (by omega) (gso (by omega) hg1_i1)) (by rfl), hv_fact (h := ((t1.h.set 0 (bk 0 83 true (Nat.succ (t1.vr 0)) [.str ((cSign [44] (cF st).2).1), .bool ((cSign [44] (cF st).2).2)])).set 0 (bk 0 83 true (Nat.succ (Nat.succ (t1.vr 0))) [.str ((cG st).2.1), .bool ((cG st).2.2)]))) (ver := (t1.vr 2)) (cs := [.int .i64 ((cA st).1), .int .i64 ((cB st).1), .int .i64 ((cC st).1), .str ((cD st).1), (t1.cv 2 4), .nils]) (by kernel_rfl) (gso (by omega) (gso (by omega) hg2_i1)) (by exact six_cv5 (cv_of (h := ((t1.h.set 0 (bk 0 83 true (Nat.succ (t1.vr 0)) [.str ((cSign [44] (cF st).2).1), .bool ((cSign [44] (cF st).2).2)])).set 0 (bk 0 83 true (Nat.succ (Nat.succ (t1.vr 0))) [.str ((cG st).2.1), .bool ((cG st).2.2)]))) (b := bk 2 35 true (t1.vr 2) [.int .i64 ((cA st).1), .int .i64 ((cB st).1), .int .i64 ((cC st).1), .str ((cD st).1), (t1.cv 2 4), .nils]) (by kernel_rfl) (gso (by omega) (gso (by omega) hg2_i1)) rfl)), hv_next (h := ((t1.h.set 0 (bk 0 83 true (Nat.succ (t1.vr 0)) [.str ((cSign [44] (cF st).2).1), .bool ((cSign [44] (cF st).2).2)])).set 0 (bk 0 83 true (Nat.succ (Nat.succ (t1.vr 0))) [.str ((cG st).2.1), .bool ((cG st).2.2)]))) (by kernel_rfl) (by first | omega | (simp only [nnew, nset]; omega))⟩
          exact ⟨OwnV.at (h := ((t1.h.set 0 (bk 0 83 true (Nat.succ (t1.vr 0)) [.str ((cSign [44] (cF st).2).1), .bool ((cSign [44] (cF st).2).2)])).set 0 (bk 0 83 true (Nat.succ (Nat.succ (t1.vr 0))) [.str ((cG st).2.1), .bool ((cG st).2.2)]))) (x := .nils) (l := []) (b := bk 2 35 true (t1.vr 2) [.int .i64 ((cA st).1), .int .i64 ((cB st).1), .int .i64 ((cC st).1), .str ((cD st).1), (t1.cv 2 4), .nils]) (by kernel_rfl) (gso (by omega) (gso (by omega) hg2_i1)) rfl rfl (OwnR.nil _ _ _ (Nat.le_refl _)), OwnT.in (h := ((t1.h.set 0 (bk 0 83 true (Nat.succ (t1.vr 0)) [.str ((cSign [44] (cF st).2).1), .bool ((cSign [44] (cF st).2).2)])).set 0 (bk 0 83 true (Nat.succ (Nat.succ (t1.vr 0))) [.str ((cG st).2.1), .bool ((cG st).2.2)]))) (by kernel_rfl) (OwnR.set (j := 0) (Or.inl (by omega)) (OwnR.set (j := 0) (Or.inl (by omega)) hy5)), fun j hj => by omega⟩
        · rintro i6 t6 hi6 ⟨hI6, hg0_i6, hg1_i6, hg2_i6, hnx_i6⟩
          refine W.seq ?_
          refine W.seq ?_
          refine W.region ?_
          refine WO.adv 4 (by kernel_rfl) ?_
          refine splitB (decide (((i6 : Nat) : Int) < (cG st).1)) (fun hb7 => ?_) (fun hb7 => ?_)
          · refine WO.sub 53 hb7 (by kernel_rfl) ?_
            refine WO.sub 54 hb7 (by kernel_rfl) ?_
            refine WO.adv 3 (by kernel_rfl) ?_
            refine WO.opk (y := keep t6.h (opLoad (Cg K) t6.h 4 (.ptrO 0 1))) (x := .bool ((itL (cVal d) i6 ([], (cG st).2)).2.2)) (h' := t6.h) (load_k hg0_i6 (by kernel_rfl)) (by kernel_rfl) ?_
            refine WO.fin (by kernel_rfl) ?_
            refine W.cond (!((itL (cVal d) i6 ([], (cG st).2)).2.2)) (by kernel_rfl) (fun hb8 => ?_) (fun hb8 => ?_)
            · refine W.sub 59 hb8 (by kernel_rfl) ?_
              refine W.sub 60 hb8 (by kernel_rfl) ?_
              refine W.skip ?_
              refine W.seq ?_
              refine W.block ?_
              refine W.drawn2 (by kernel_rfl) ?_
              refine WE.adv (j' := 1) 1 (by kernel_rfl) (by kernel_rfl) ?_
              refine WE.opr (y := keep t6.h (opLoad (Cg K) t6.h 33 (.ptrO 2 5))) (x := (t6.cv 2 5)) (id := 2) (by kernel_rfl) (load_k hg2_i6 (by kernel_rfl)) (by kernel_rfl) (by kernel_rfl) (by kernel_rfl) ?_
              refine WE.adv (j' := 3) 1 (by kernel_rfl) (by kernel_rfl) ?_
              refine WE.callh (by kernel_rfl) (by kernel_rfl) (by kernel_rfl) (ih m (by omega) ((itL (cVal d) i6 ([], (cG st).2)).2) (item_less hd hI6.2.2 (by simpa using hb8)) (vl_le hl i6) 0 0 (t6.vr 0) t6.h hg0_i6) ?_
              refine WE.opa (y := some (.slO t6.h.next 0 6 1 1 true, ((t6.h.set 0 (bk 0 83 true (Nat.succ (t6.vr 0)) [.str ((cVal d ((itL (cVal d) i6 ([], (cG st).2)).2)).2.1), .bool ((cVal d ((itL (cVal d) i6 ([], (cG st).2)).2)).2.2)])).new 35 true ((cVal d ((itL (cVal d) i6 ([], (cG st).2)).2)).1.six)))) rfl (by kernel_rfl) (by kernel_rfl) ?_
              obtain ⟨x9, h9, he9, hO9, hK9⟩ := append_v (K := K) (h := ((t6.h.set 0 (bk 0 83 true (Nat.succ (t6.vr 0)) [.str ((cVal d ((itL (cVal d) i6 ([], (cG st).2)).2)).2.1), .bool ((cVal d ((itL (cVal d) i6 ([], (cG st).2)).2)).2.2)])).new 35 true ((cVal d ((itL (cVal d) i6 ([], (cG st).2)).2)).1.six))) (v := (t6.cv 2 5)) (l := (itL (cVal d) i6 ([], (cG st).2)).1) (id := t6.h.next) (g := t6.h.next) (ver := 0) (x := (cVal d ((itL (cVal d) i6 ([], (cG st).2)).2)).1) (OwnR.new (OwnR.set (j := 0) (Or.inl (by omega)) hI6.1)) (by have h1 : (itL (cVal d) i6 ([], (cG st).2)).1.length = 0 + i6 := it_cnt (B := cVal d) _ i6; omega) gnew
              have hn9 := hK9.1
              simp only [nnew, nset] at hn9
              refine WE.opm he9 (by kernel_rfl) (by kernel_rfl) ?_
              refine WE.adv (j' := 7) 1 (by kernel_rfl) (by kernel_rfl) ?_
              refine WE.opm (y := opStore (Cg K) h9 33 (.ptrO 2 5) (x9)) (x := .tup []) (h' := (h9.set 2 (bk 2 35 true (Nat.succ (t6.vr 2)) [.int .i64 ((cA st).1), .int .i64 ((cB st).1), .int .i64 ((cC st).1), .str ((cD st).1), (t1.cv 2 4), x9]))) (store_o (hK9.2 2 _ (gnewo (by first | omega | (simp only [nnew, nset]; omega)) (gso (by omega) hg2_i6)) (by first | omega | (simp only [nnew, nset]; omega)) (show 2 < t1.h.next by omega)) (OwnR.plain hO9) (by kernel_rfl) (by kernel_rfl)) (by kernel_rfl) (by kernel_rfl) ?_
              refine WE.finm (id := 2) (jc := 3) (jm := 4) (n0 := t6.h.next) (B := bk 2 35 true (t6.vr 2) [.int .i64 ((cA st).1), .int .i64 ((cB st).1), .int .i64 ((cC st).1), .str ((cD st).1), (t1.cv 2 4), (t6.cv 2 5)]) (h := t6.h) (h' := (t6.h.set 0 (bk 0 83 true (Nat.succ (t6.vr 0)) [.str ((cVal d ((itL (cVal d) i6 ([], (cG st).2)).2)).2.1), .bool ((cVal d ((itL (cVal d) i6 ([], (cG st).2)).2)).2.2)]))) (by kernel_rfl) (by kernel_rfl) (by kernel_rfl) (vblk_refl (OwnR.flat (h := t6.h) (k := 63) hI6.2.1) (OwnR.flat (h := t6.h) (k := 63) hI6.1)) hg2_i6 (gso (by omega) hg2_i6) (by omega) ?_
              refine W.region ?_
              refine WO.fin (by kernel_rfl) ?_
              have hlt : i6 < ((cG st).2.1.length + 1) := (cH_lt (d := d) (st := st) (i := i6) hI6.2.2 (by simpa using hb8))
              refine ⟨hlt, ⟨?_, hv_fact (h := (h9.set 2 (bk 2 35 true (Nat.succ (t6.vr 2)) [.int .i64 ((cA st).1), .int .i64 ((cB st).1), .int .i64 ((cC st).1), .str ((cD st).1), (t1.cv 2 4), x9]))) (ver := (Nat.succ (t6.vr 0))) (cs := [.str ((cVal d ((itL (cVal d) i6 ([], (cG st).2)).2)).2.1), .bool ((cVal d ((itL (cVal d) i6 ([], (cG st).2)).2)).2.2)]) (by kernel_rfl) (gso (by omega) (hK9.2 0 _ (gnewo (by first | omega | (simp only [nnew, nset]; omega)) gss) (by first | omega | (simp only [nnew, nset]; omega)) (show 0 < t1.h.next by omega))) (by rw [itL_succ]; first | done | rfl), hv_fact (h := (h9.set 2 (bk 2 35 true (Nat.succ (t6.vr 2)) [.int .i64 ((cA st).1), .int .i64 ((cB st).1), .int .i64 ((cC st).1), .str ((cD st).1), (t1.cv 2 4), x9]))) (ver := (t6.vr 1)) (cs := [.int .i64 0, .int .i64 0, .int .i64 0, .str [], .nils, .nils]) (by kernel_rfl) (gso (by omega) (hK9.2 1 _ (gnewo (by first | omega | (simp only [nnew, nset]; omega)) (gso (by omega) hg1_i6)) (by first | omega | (simp only [nnew, nset]; omega)) (show 1 < t1.h.next by omega))) (by rfl), hv_fact (h := (h9.set 2 (bk 2 35 true (Nat.succ (t6.vr 2)) [.int .i64 ((cA st).1), .int .i64 ((cB st).1), .int .i64 ((cC st).1), .str ((cD st).1), (t1.cv 2 4), x9]))) (ver := (Nat.succ (t6.vr 2))) (cs := [.int .i64 ((cA st).1), .int .i64 ((cB st).1), .int .i64 ((cC st).1), .str ((cD st).1), (t1.cv 2 4), x9]) (by kernel_rfl) gss (by exact six_cv5 (cv_of (h := (h9.set 2 (bk 2 35 true (Nat.succ (t6.vr 2)) [.int .i64 ((cA st).1), .int .i64 ((cB st).1), .int .i64 ((cC st).1), .str ((cD st).1), (t1.cv 2 4), x9]))) (b := bk 2 35 true (Nat.succ (t6.vr 2)) [.int .i64 ((cA st).1), .int .i64 ((cB st).1), .int .i64 ((cC st).1), .str ((cD st).1), (t1.cv 2 4), x9]) (by kernel_rfl) gss rfl)), hv_next (h := (h9.set 2 (bk 2 35 true (Nat.succ (t6.vr 2)) [.int .i64 ((cA st).1), .int .i64 ((cB st).1), .int .i64 ((cC st).1), .str ((cD st).1), (t1.cv 2 4), x9]))) (by kernel_rfl) (by first | omega | (simp only [nnew, nset]; omega))⟩, ?_⟩
              · exact ⟨OwnV.at (h := (h9.set 2 (bk 2 35 true (Nat.succ (t6.vr 2)) [.int .i64 ((cA st).1), .int .i64 ((cB st).1), .int .i64 ((cC st).1), .str ((cD st).1), (t1.cv 2 4), x9]))) (x := x9) (b := bk 2 35 true (Nat.succ (t6.vr 2)) [.int .i64 ((cA st).1), .int .i64 ((cB st).1), .int .i64 ((cC st).1), .str ((cD st).1), (t1.cv 2 4), x9]) (by kernel_rfl) gss rfl (by rw [itL_succ]; first | done | rfl) (OwnR.grow (OwnR.set (j := 2) (Or.inl (by omega)) hO9)), OwnT.in (h := (h9.set 2 (bk 2 35 true (Nat.succ (t6.vr 2)) [.int .i64 ((cA st).1), .int .i64 ((cB st).1), .int .i64 ((cC st).1), .str ((cD st).1), (t1.cv 2 4), x9]))) (by kernel_rfl) (OwnR.set (j := 2) (Or.inl (by omega)) (OwnR.keep hK9 (Nat.le_refl _) (OwnR.new (OwnR.set (j := 0) (Or.inl (by omega)) hI6.2.1)))), fun j hj => by rcases Nat.lt_succ_iff_lt_or_eq.1 hj with h | rfl; exact hI6.2.2 j h; exact ⟨of_decide_eq_true hb7, (by simpa using hb8)⟩⟩
              · refine Told.put 7 (wrapA hlt hlen2) (by kernel_rfl) ?_
                exact Told.k (by kernel_rfl)
            · refine W.sub 59 hb8 (by kernel_rfl) ?_
              refine W.sub 60 hb8 (by kernel_rfl) ?_
              refine W.exit ?_
              have hF10 := cH_eq (st := st) (i := i6) hI6.2.2 (.inr (by simpa using hb8))
              have hz10 : t6.h.get 0 = some (bk 0 83 true (t6.vr 0) [.str ((cH (cVal d) st).2.1), .bool ((cH (cVal d) st).2.2)]) := by rw [← hF10]; exact hg0_i6
              have hy10 : OwnV t6.h (t6.cv 2 5) (cH (cVal d) st).1 t1.h.next t6.h.next := by rw [← hF10]; exact hI6.1
              refine blockQ ?_
              refine W.seq ?_
              refine W.region ?_
              refine WO.adv 1 (by kernel_rfl) ?_
              refine WO.callh (by kernel_rfl) (by kernel_rfl) (sign_c (n := m) (by omega) (st := ((cH (cVal d) st).2)) [59] (i := 0) (g := 0) (ver := (t6.vr 0)) (h := t6.h) hz10) ?_
              refine WO.nil ?_
              refine W.seq ?_
              refine W.region ?_
              refine WO.adv 4 (by kernel_rfl) ?_
              refine WO.opk (y := keep (t6.h.set 0 (bk 0 83 true (Nat.succ (t6.vr 0)) [.str ((cI (cVal d) st).1), .bool ((cI (cVal d) st).2)])) (opLoad (Cg K) (t6.h.set 0 (bk 0 83 true (Nat.succ (t6.vr 0)) [.str ((cI (cVal d) st).1), .bool ((cI (cVal d) st).2)])) 4 (.ptrO 0 1))) (x := .bool ((cI (cVal d) st).2)) (h' := (t6.h.set 0 (bk 0 83 true (Nat.succ (t6.vr 0)) [.str ((cI (cVal d) st).1), .bool ((cI (cVal d) st).2)]))) (load_k gss (by kernel_rfl)) (by kernel_rfl) ?_
              refine WO.adv 1 (by kernel_rfl) ?_
              refine splitB ((cI (cVal d) st).2) (fun hb11 => ?_) (fun hb11 => ?_)
              · refine WO.sub 76 hb11 (by kernel_rfl) ?_
                refine WO.sub 77 hb11 (by kernel_rfl) ?_
                refine WO.adv 9 (by kernel_rfl) ?_
                refine WO.opk (y := opStore (Cg K) (t6.h.set 0 (bk 0 83 true (Nat.succ (t6.vr 0)) [.str ((cI (cVal d) st).1), .bool ((cI (cVal d) st).2)])) 4 (.ptrO 0 1) (.bool true)) (x := .tup []) (h' := ((t6.h.set 0 (bk 0 83 true (Nat.succ (t6.vr 0)) [.str ((cI (cVal d) st).1), .bool ((cI (cVal d) st).2)])).set 0 (bk 0 83 true (Nat.succ (Nat.succ (t6.vr 0))) [.str ((cI (cVal d) st).1), .bool true]))) (store_k gss (by kernel_rfl) (by kernel_rfl)) (by kernel_rfl) ?_
                refine WO.nil ?_
                refine W.seq ?_
                refine W.region ?_
                refine WO.opk (y := keep ((t6.h.set 0 (bk 0 83 true (Nat.succ (t6.vr 0)) [.str ((cI (cVal d) st).1), .bool ((cI (cVal d) st).2)])).set 0 (bk 0 83 true (Nat.succ (Nat.succ (t6.vr 0))) [.str ((cI (cVal d) st).1), .bool true])) (opLoad (Cg K) ((t6.h.set 0 (bk 0 83 true (Nat.succ (t6.vr 0)) [.str ((cI (cVal d) st).1), .bool ((cI (cVal d) st).2)])).set 0 (bk 0 83 true (Nat.succ (Nat.succ (t6.vr 0))) [.str ((cI (cVal d) st).1), .bool true])) 35 (.ptrO 2 0))) (x := .agg [.int .i64 ((cA st).1), .int .i64 ((cB st).1), .int .i64 ((cC st).1), .str ((cD st).1), (t1.cv 2 4), (t6.cv 2 5)]) (h' := ((t6.h.set 0 (bk 0 83 true (Nat.succ (t6.vr 0)) [.str ((cI (cVal d) st).1), .bool ((cI (cVal d) st).2)])).set 0 (bk 0 83 true (Nat.succ (Nat.succ (t6.vr 0))) [.str ((cI (cVal d) st).1), .bool true]))) (load_k (gso (by omega) (gso (by omega) hg2_i6)) (by kernel_rfl)) (by kernel_rfl) ?_
                refine WO.opk (y := opStore (Cg K) ((t6.h.set 0 (bk 0 83 true (Nat.succ (t6.vr 0)) [.str ((cI (cVal d) st).1), .bool ((cI (cVal d) st).2)])).set 0 (bk 0 83 true (Nat.succ (Nat.succ (t6.vr 0))) [.str ((cI (cVal d) st).1), .bool true])) 35 (.ptrO 1 0) (.agg [.int .i64 ((cA st).1), .int .i64 ((cB st).1), .int .i64 ((cC st).1), .str ((cD st).1), (t1.cv 2 4), (t6.cv 2 5)])) (x := .tup []) (h' := (((t6.h.set 0 (bk 0 83 true (Nat.succ (t6.vr 0)) [.str ((cI (cVal d) st).1), .bool ((cI (cVal d) st).2)])).set 0 (bk 0 83 true (Nat.succ (Nat.succ (t6.vr 0))) [.str ((cI (cVal d) st).1), .bool true])).set 1 (bk 1 35 true (Nat.succ (t6.vr 1)) [.int .i64 ((cA st).1), .int .i64 ((cB st).1), .int .i64 ((cC st).1), .str ((cD st).1), (t1.cv 2 4), (t6.cv 2 5)]))) (store_k (gso (by omega) (gso (by omega) hg1_i6)) (by kernel_rfl) (by kernel_rfl)) (by kernel_rfl) ?_
                refine WO.nil ?_
                refine W.ret ?_
                exact RetF.kh (vs := [.agg [.int .i64 ((cA st).1), .int .i64 ((cB st).1), .int .i64 ((cC st).1), .str ((cD st).1), (t1.cv 2 4), (t6.cv 2 5)]]) (h' := (((t6.h.set 0 (bk 0 83 true (Nat.succ (t6.vr 0)) [.str ((cI (cVal d) st).1), .bool ((cI (cVal d) st).2)])).set 0 (bk 0 83 true (Nat.succ (Nat.succ (t6.vr 0))) [.str ((cI (cVal d) st).1), .bool true])).set 1 (bk 1 35 true (Nat.succ (t6.vr 1)) [.int .i64 ((cA st).1), .int .i64 ((cB st).1), .int .i64 ((cC st).1), .str ((cD st).1), (t1.cv 2 4), (t6.cv 2 5)]))) (ver := (Nat.succ (Nat.succ (t6.vr 0)))) (cs' := [.str ((cI (cVal d) st).1), .bool true]) (by kernel_rfl) (by rw [cVal_snd]; simp [hb11]) (by kernel_rfl) (res_cell (p := .ptrO 1 0) (by kernel_rfl) (load_k gss (by kernel_rfl))) (gso (by omega) gss) (by rw [cVal_fst]; exact fr_six (k := 60) (OwnR.set (j := 0) (Or.inl (by omega)) (OwnR.set (j := 1) (Or.inl (by omega)) (OwnR.set (j := 0) (Or.inl (by omega)) (OwnR.set (j := 0) (Or.inl (by omega)) hI6.2.1)))) (OwnR.set (j := 0) (Or.inl (by omega)) (OwnR.set (j := 1) (Or.inl (by omega)) (OwnR.set (j := 0) (Or.inl (by omega)) (OwnR.set (j := 0) (Or.inl (by omega)) hy10)))))
              · refine WO.sub 76 hb11 (by kernel_rfl) ?_
                refine WO.sub 77 hb11 (by kernel_rfl) ?_
                refine WO.adv 4 (by kernel_rfl) ?_
                refine splitB (decide ((cE st).1 < 0)) (fun hb12 => ?_) (fun hb12 => ?_)
                · refine WO.sub 79 hb12 (by kernel_rfl) ?_
                  refine WO.sub 80 hb12 (by kernel_rfl) ?_
                  refine WO.sub 81 hb12 (by kernel_rfl) ?_
                  refine WO.adv 5 (by kernel_rfl) ?_
                  refine WO.opk (y := opStore (Cg K) (t6.h.set 0 (bk 0 83 true (Nat.succ (t6.vr 0)) [.str ((cI (cVal d) st).1), .bool ((cI (cVal d) st).2)])) 4 (.ptrO 0 1) (.bool true)) (x := .tup []) (h' := ((t6.h.set 0 (bk 0 83 true (Nat.succ (t6.vr 0)) [.str ((cI (cVal d) st).1), .bool ((cI (cVal d) st).2)])).set 0 (bk 0 83 true (Nat.succ (Nat.succ (t6.vr 0))) [.str ((cI (cVal d) st).1), .bool true]))) (store_k gss (by kernel_rfl) (by kernel_rfl)) (by kernel_rfl) ?_
                  refine WO.nil ?_
                  refine W.seq ?_
                  refine W.region ?_
                  refine WO.opk (y := keep ((t6.h.set 0 (bk 0 83 true (Nat.succ (t6.vr 0)) [.str ((cI (cVal d) st).1), .bool ((cI (cVal d) st).2)])).set 0 (bk 0 83 true (Nat.succ (Nat.succ (t6.vr 0))) [.str ((cI (cVal d) st).1), .bool true])) (opLoad (Cg K) ((t6.h.set 0 (bk 0 83 true (Nat.succ (t6.vr 0)) [.str ((cI (cVal d) st).1), .bool ((cI (cVal d) st).2)])).set 0 (bk 0 83 true (Nat.succ (Nat.succ (t6.vr 0))) [.str ((cI (cVal d) st).1), .bool true])) 35 (.ptrO 2 0))) (x := .agg [.int .i64 ((cA st).1), .int .i64 ((cB st).1), .int .i64 ((cC st).1), .str ((cD st).1), (t1.cv 2 4), (t6.cv 2 5)]) (h' := ((t6.h.set 0 (bk 0 83 true (Nat.succ (t6.vr 0)) [.str ((cI (cVal d) st).1), .bool ((cI (cVal d) st).2)])).set 0 (bk 0 83 true (Nat.succ (Nat.succ (t6.vr 0))) [.str ((cI (cVal d) st).1), .bool true]))) (load_k (gso (by omega) (gso (by omega) hg2_i6)) (by kernel_rfl)) (by kernel_rfl) ?_
                  refine WO.opk (y := opStore (Cg K) ((t6.h.set 0 (bk 0 83 true (Nat.succ (t6.vr 0)) [.str ((cI (cVal d) st).1), .bool ((cI (cVal d) st).2)])).set 0 (bk 0 83 true (Nat.succ (Nat.succ (t6.vr 0))) [.str ((cI (cVal d) st).1), .bool true])) 35 (.ptrO 1 0) (.agg [.int .i64 ((cA st).1), .int .i64 ((cB st).1), .int .i64 ((cC st).1), .str ((cD st).1), (t1.cv 2 4), (t6.cv 2 5)])) (x := .tup []) (h' := (((t6.h.set 0 (bk 0 83 true (Nat.succ (t6.vr 0)) [.str ((cI (cVal d) st).1), .bool ((cI (cVal d) st).2)])).set 0 (bk 0 83 true (Nat.succ (Nat.succ (t6.vr 0))) [.str ((cI (cVal d) st).1), .bool true])).set 1 (bk 1 35 true (Nat.succ (t6.vr 1)) [.int .i64 ((cA st).1), .int .i64 ((cB st).1), .int .i64 ((cC st).1), .str ((cD st).1), (t1.cv 2 4), (t6.cv 2 5)]))) (store_k (gso (by omega) (gso (by omega) hg1_i6)) (by kernel_rfl) (by kernel_rfl)) (by kernel_rfl) ?_
                  refine WO.nil ?_
                  refine W.ret ?_
                  exact RetF.kh (vs := [.agg [.int .i64 ((cA st).1), .int .i64 ((cB st).1), .int .i64 ((cC st).1), .str ((cD st).1), (t1.cv 2 4), (t6.cv 2 5)]]) (h' := (((t6.h.set 0 (bk 0 83 true (Nat.succ (t6.vr 0)) [.str ((cI (cVal d) st).1), .bool ((cI (cVal d) st).2)])).set 0 (bk 0 83 true (Nat.succ (Nat.succ (t6.vr 0))) [.str ((cI (cVal d) st).1), .bool true])).set 1 (bk 1 35 true (Nat.succ (t6.vr 1)) [.int .i64 ((cA st).1), .int .i64 ((cB st).1), .int .i64 ((cC st).1), .str ((cD st).1), (t1.cv 2 4), (t6.cv 2 5)]))) (ver := (Nat.succ (Nat.succ (t6.vr 0)))) (cs' := [.str ((cI (cVal d) st).1), .bool true]) (by kernel_rfl) (by rw [cVal_snd]; simp [hb11, hb12]) (by kernel_rfl) (res_cell (p := .ptrO 1 0) (by kernel_rfl) (load_k gss (by kernel_rfl))) (gso (by omega) gss) (by rw [cVal_fst]; exact fr_six (k := 60) (OwnR.set (j := 0) (Or.inl (by omega)) (OwnR.set (j := 1) (Or.inl (by omega)) (OwnR.set (j := 0) (Or.inl (by omega)) (OwnR.set (j := 0) (Or.inl (by omega)) hI6.2.1)))) (OwnR.set (j := 0) (Or.inl (by omega)) (OwnR.set (j := 1) (Or.inl (by omega)) (OwnR.set (j := 0) (Or.inl (by omega)) (OwnR.set (j := 0) (Or.inl (by omega)) hy10)))))
                · refine WO.sub 79 hb12 (by kernel_rfl) ?_
                  refine WO.sub 80 hb12 (by kernel_rfl) ?_
                  refine WO.sub 81 hb12 (by kernel_rfl) ?_
                  refine WO.adv 5 (by kernel_rfl) ?_
                  refine WO.opk (y := opStore (Cg K) (t6.h.set 0 (bk 0 83 true (Nat.succ (t6.vr 0)) [.str ((cI (cVal d) st).1), .bool ((cI (cVal d) st).2)])) 4 (.ptrO 0 1) (.bool (decide ((cG st).1 < 0)))) (x := .tup []) (h' := ((t6.h.set 0 (bk 0 83 true (Nat.succ (t6.vr 0)) [.str ((cI (cVal d) st).1), .bool ((cI (cVal d) st).2)])).set 0 (bk 0 83 true (Nat.succ (Nat.succ (t6.vr 0))) [.str ((cI (cVal d) st).1), .bool (decide ((cG st).1 < 0))]))) (store_k gss (by kernel_rfl) (by kernel_rfl)) (by kernel_rfl) ?_
                  refine WO.nil ?_
                  refine W.seq ?_
                  refine W.region ?_
                  refine WO.opk (y := keep ((t6.h.set 0 (bk 0 83 true (Nat.succ (t6.vr 0)) [.str ((cI (cVal d) st).1), .bool ((cI (cVal d) st).2)])).set 0 (bk 0 83 true (Nat.succ (Nat.succ (t6.vr 0))) [.str ((cI (cVal d) st).1), .bool (decide ((cG st).1 < 0))])) (opLoad (Cg K) ((t6.h.set 0 (bk 0 83 true (Nat.succ (t6.vr 0)) [.str ((cI (cVal d) st).1), .bool ((cI (cVal d) st).2)])).set 0 (bk 0 83 true (Nat.succ (Nat.succ (t6.vr 0))) [.str ((cI (cVal d) st).1), .bool (decide ((cG st).1 < 0))])) 35 (.ptrO 2 0))) (x := .agg [.int .i64 ((cA st).1), .int .i64 ((cB st).1), .int .i64 ((cC st).1), .str ((cD st).1), (t1.cv 2 4), (t6.cv 2 5)]) (h' := ((t6.h.set 0 (bk 0 83 true (Nat.succ (t6.vr 0)) [.str ((cI (cVal d) st).1), .bool ((cI (cVal d) st).2)])).set 0 (bk 0 83 true (Nat.succ (Nat.succ (t6.vr 0))) [.str ((cI (cVal d) st).1), .bool (decide ((cG st).1 < 0))]))) (load_k (gso (by omega) (gso (by omega) hg2_i6)) (by kernel_rfl)) (by kernel_rfl) ?_
                  refine WO.opk (y := opStore (Cg K) ((t6.h.set 0 (bk 0 83 true (Nat.succ (t6.vr 0)) [.str ((cI (cVal d) st).1), .bool ((cI (cVal d) st).2)])).set 0 (bk 0 83 true (Nat.succ (Nat.succ (t6.vr 0))) [.str ((cI (cVal d) st).1), .bool (decide ((cG st).1 < 0))])) 35 (.ptrO 1 0) (.agg [.int .i64 ((cA st).1), .int .i64 ((cB st).1), .int .i64 ((cC st).1), .str ((cD st).1), (t1.cv 2 4), (t6.cv 2 5)])) (x := .tup []) (h' := (((t6.h.set 0 (bk 0 83 true (Nat.succ (t6.vr 0)) [.str ((cI (cVal d) st).1), .bool ((cI (cVal d) st).2)])).set 0 (bk 0 83 true (Nat.succ (Nat.succ (t6.vr 0))) [.str ((cI (cVal d) st).1), .bool (decide ((cG st).1 < 0))])).set 1 (bk 1 35 true (Nat.succ (t6.vr 1)) [.int .i64 ((cA st).1), .int .i64 ((cB st).1), .int .i64 ((cC st).1), .str ((cD st).1), (t1.cv 2 4), (t6.cv 2 5)]))) (store_k (gso (by omega) (gso (by omega) hg1_i6)) (by kernel_rfl) (by kernel_rfl)) (by kernel_rfl) ?_
                  refine WO.nil ?_
                  refine W.ret ?_
                  exact RetF.kh (vs := [.agg [.int .i64 ((cA st).1), .int .i64 ((cB st).1), .int .i64 ((cC st).1), .str ((cD st).1), (t1.cv 2 4), (t6.cv 2 5)]]) (h' := (((t6.h.set 0 (bk 0 83 true (Nat.succ (t6.vr 0)) [.str ((cI (cVal d) st).1), .bool ((cI (cVal d) st).2)])).set 0 (bk 0 83 true (Nat.succ (Nat.succ (t6.vr 0))) [.str ((cI (cVal d) st).1), .bool (decide ((cG st).1 < 0))])).set 1 (bk 1 35 true (Nat.succ (t6.vr 1)) [.int .i64 ((cA st).1), .int .i64 ((cB st).1), .int .i64 ((cC st).1), .str ((cD st).1), (t1.cv 2 4), (t6.cv 2 5)]))) (ver := (Nat.succ (Nat.succ (t6.vr 0)))) (cs' := [.str ((cI (cVal d) st).1), .bool (decide ((cG st).1 < 0))]) (by kernel_rfl) (by rw [cVal_snd]; simp [hb11, hb12]) (by kernel_rfl) (res_cell (p := .ptrO 1 0) (by kernel_rfl) (load_k gss (by kernel_rfl))) (gso (by omega) gss) (by rw [cVal_fst]; exact fr_six (k := 60) (OwnR.set (j := 0) (Or.inl (by omega)) (OwnR.set (j := 1) (Or.inl (by omega)) (OwnR.set (j := 0) (Or.inl (by omega)) (OwnR.set (j := 0) (Or.inl (by omega)) hI6.2.1)))) (OwnR.set (j := 0) (Or.inl (by omega)) (OwnR.set (j := 1) (Or.inl (by omega)) (OwnR.set (j := 0) (Or.inl (by omega)) (OwnR.set (j := 0) (Or.inl (by omega)) hy10)))))
          · refine WO.sub 53 hb7 (by kernel_rfl) ?_
            refine WO.sub 54 hb7 (by kernel_rfl) ?_
            refine WO.fin (by kernel_rfl) ?_
            refine W.cond false (by kernel_rfl) (fun h => by cases h) (fun _ => ?_)
            refine W.exit ?_
            have hF13 := cH_eq (st := st) (i := i6) hI6.2.2 (.inl (by have := of_decide_eq_false hb7; omega))
            have hz13 : t6.h.get 0 = some (bk 0 83 true (t6.vr 0) [.str ((cH (cVal d) st).2.1), .bool ((cH (cVal d) st).2.2)]) := by rw [← hF13]; exact hg0_i6
            have hy13 : OwnV t6.h (t6.cv 2 5) (cH (cVal d) st).1 t1.h.next t6.h.next := by rw [← hF13]; exact hI6.1
            refine blockQ ?_
            refine W.seq ?_
            refine W.region ?_
            refine WO.adv 1 (by kernel_rfl) ?_
            refine WO.callh (by kernel_rfl) (by kernel_rfl) (sign_c (n := m) (by omega) (st := ((cH (cVal d) st).2)) [59] (i := 0) (g := 0) (ver := (t6.vr 0)) (h := t6.h) hz13) ?_
            refine WO.nil ?_
            refine W.seq ?_
            refine W.region ?_
            refine WO.adv 4 (by kernel_rfl) ?_
            refine WO.opk (y := keep (t6.h.set 0 (bk 0 83 true (Nat.succ (t6.vr 0)) [.str ((cI (cVal d) st).1), .bool ((cI (cVal d) st).2)])) (opLoad (Cg K) (t6.h.set 0 (bk 0 83 true (Nat.succ (t6.vr 0)) [.str ((cI (cVal d) st).1), .bool ((cI (cVal d) st).2)])) 4 (.ptrO 0 1))) (x := .bool ((cI (cVal d) st).2)) (h' := (t6.h.set 0 (bk 0 83 true (Nat.succ (t6.vr 0)) [.str ((cI (cVal d) st).1), .bool ((cI (cVal d) st).2)]))) (load_k gss (by kernel_rfl)) (by kernel_rfl) ?_
            refine WO.adv 1 (by kernel_rfl) ?_
            refine splitB ((cI (cVal d) st).2) (fun hb14 => ?_) (fun hb14 => ?_)
            · refine WO.sub 76 hb14 (by kernel_rfl) ?_
              refine WO.sub 77 hb14 (by kernel_rfl) ?_
              refine WO.adv 9 (by kernel_rfl) ?_
              refine WO.opk (y := opStore (Cg K) (t6.h.set 0 (bk 0 83 true (Nat.succ (t6.vr 0)) [.str ((cI (cVal d) st).1), .bool ((cI (cVal d) st).2)])) 4 (.ptrO 0 1) (.bool true)) (x := .tup []) (h' := ((t6.h.set 0 (bk 0 83 true (Nat.succ (t6.vr 0)) [.str ((cI (cVal d) st).1), .bool ((cI (cVal d) st).2)])).set 0 (bk 0 83 true (Nat.succ (Nat.succ (t6.vr 0))) [.str ((cI (cVal d) st).1), .bool true]))) (store_k gss (by kernel_rfl) (by kernel_rfl)) (by kernel_rfl) ?_
              refine WO.nil ?_
              refine W.seq ?_
              refine W.region ?_
              refine WO.opk (y := keep ((t6.h.set 0 (bk 0 83 true (Nat.succ (t6.vr 0)) [.str ((cI (cVal d) st).1), .bool ((cI (cVal d) st).2)])).set 0 (bk 0 83 true (Nat.succ (Nat.succ (t6.vr 0))) [.str ((cI (cVal d) st).1), .bool true])) (opLoad (Cg K) ((t6.h.set 0 (bk 0 83 true (Nat.succ (t6.vr 0)) [.str ((cI (cVal d) st).1), .bool ((cI (cVal d) st).2)])).set 0 (bk 0 83 true (Nat.succ (Nat.succ (t6.vr 0))) [.str ((cI (cVal d) st).1), .bool true])) 35 (.ptrO 2 0))) (x := .agg [.int .i64 ((cA st).1), .int .i64 ((cB st).1), .int .i64 ((cC st).1), .str ((cD st).1), (t1.cv 2 4), (t6.cv 2 5)]) (h' := ((t6.h.set 0 (bk 0 83 true (Nat.succ (t6.vr 0)) [.str ((cI (cVal d) st).1), .bool ((cI (cVal d) st).2)])).set 0 (bk 0 83 true (Nat.succ (Nat.succ (t6.vr 0))) [.str ((cI (cVal d) st).1), .bool true]))) (load_k (gso (by omega) (gso (by omega) hg2_i6)) (by kernel_rfl)) (by kernel_rfl) ?_
              refine WO.opk (y := opStore (Cg K) ((t6.h.set 0 (bk 0 83 true (Nat.succ (t6.vr 0)) [.str ((cI (cVal d) st).1), .bool ((cI (cVal d) st).2)])).set 0 (bk 0 83 true (Nat.succ (Nat.succ (t6.vr 0))) [.str ((cI (cVal d) st).1), .bool true])) 35 (.ptrO 1 0) (.agg [.int .i64 ((cA st).1), .int .i64 ((cB st).1), .int .i64 ((cC st).1), .str ((cD st).1), (t1.cv 2 4), (t6.cv 2 5)])) (x := .tup []) (h' := (((t6.h.set 0 (bk 0 83 true (Nat.succ (t6.vr 0)) [.str ((cI (cVal d) st).1), .bool ((cI (cVal d) st).2)])).set 0 (bk 0 83 true (Nat.succ (Nat.succ (t6.vr 0))) [.str ((cI (cVal d) st).1), .bool true])).set 1 (bk 1 35 true (Nat.succ (t6.vr 1)) [.int .i64 ((cA st).1), .int .i64 ((cB st).1), .int .i64 ((cC st).1), .str ((cD st).1), (t1.cv 2 4), (t6.cv 2 5)]))) (store_k (gso (by omega) (gso (by omega) hg1_i6)) (by kernel_rfl) (by kernel_rfl)) (by kernel_rfl) ?_
              refine WO.nil ?_
              refine W.ret ?_
              exact RetF.kh (vs := [.agg [.int .i64 ((cA st).1), .int .i64 ((cB st).1), .int .i64 ((cC st).1), .str ((cD st).1), (t1.cv 2 4), (t6.cv 2 5)]]) (h' := (((t6.h.set 0 (bk 0 83 true (Nat.succ (t6.vr 0)) [.str ((cI (cVal d) st).1), .bool ((cI (cVal d) st).2)])).set 0 (bk 0 83 true (Nat.succ (Nat.succ (t6.vr 0))) [.str ((cI (cVal d) st).1), .bool true])).set 1 (bk 1 35 true (Nat.succ (t6.vr 1)) [.int .i64 ((cA st).1), .int .i64 ((cB st).1), .int .i64 ((cC st).1), .str ((cD st).1), (t1.cv 2 4), (t6.cv 2 5)]))) (ver := (Nat.succ (Nat.succ (t6.vr 0)))) (cs' := [.str ((cI (cVal d) st).1), .bool true]) (by kernel_rfl) (by rw [cVal_snd]; simp [hb14]) (by kernel_rfl) (res_cell (p := .ptrO 1 0) (by kernel_rfl) (load_k gss (by kernel_rfl))) (gso (by omega) gss) (by rw [cVal_fst]; exact fr_six (k := 60) (OwnR.set (j := 0) (Or.inl (by omega)) (OwnR.set (j := 1) (Or.inl (by omega)) (OwnR.set (j := 0) (Or.inl (by omega)) (OwnR.set (j := 0) (Or.inl (by omega)) hI6.2.1)))) (OwnR.set (j := 0) (Or.inl (by omega)) (OwnR.set (j := 1) (Or.inl (by omega)) (OwnR.set (j := 0) (Or.inl (by omega)) (OwnR.set (j := 0) (Or.inl (by omega)) hy13)))))
            · refine WO.sub 76 hb14 (by kernel_rfl) ?_
              refine WO.sub 77 hb14 (by kernel_rfl) ?_
              refine WO.adv 4 (by kernel_rfl) ?_
              refine splitB (decide ((cE st).1 < 0)) (fun hb15 => ?_) (fun hb15 => ?_)
              · refine WO.sub 79 hb15 (by kernel_rfl) ?_
                refine WO.sub 80 hb15 (by kernel_rfl) ?_
                refine WO.sub 81 hb15 (by kernel_rfl) ?_
                refine WO.adv 5 (by kernel_rfl) ?_
                refine WO.opk (y := opStore (Cg K) (t6.h.set 0 (bk 0 83 true (Nat.succ (t6.vr 0)) [.str ((cI (cVal d) st).1), .bool ((cI (cVal d) st).2)])) 4 (.ptrO 0 1) (.bool true)) (x := .tup []) (h' := ((t6.h.set 0 (bk 0 83 true (Nat.succ (t6.vr 0)) [.str ((cI (cVal d) st).1), .bool ((cI (cVal d) st).2)])).set 0 (bk 0 83 true (Nat.succ (Nat.succ (t6.vr 0))) [.str ((cI (cVal d) st).1), .bool true]))) (store_k gss (by kernel_rfl) (by kernel_rfl)) (by kernel_rfl) ?_
                refine WO.nil ?_
                refine W.seq ?_
                refine W.region ?_
                refine WO.opk (y := keep ((t6.h.set 0 (bk 0 83 true (Nat.succ (t6.vr 0)) [.str ((cI (cVal d) st).1), .bool ((cI (cVal d) st).2)])).set 0 (bk 0 83 true (Nat.succ (Nat.succ (t6.vr 0))) [.str ((cI (cVal d) st).1), .bool true])) (opLoad (Cg K) ((t6.h.set 0 (bk 0 83 true (Nat.succ (t6.vr 0)) [.str ((cI (cVal d) st).1), .bool ((cI (cVal d) st).2)])).set 0 (bk 0 83 true (Nat.succ (Nat.succ (t6.vr 0))) [.str ((cI (cVal d) st).1), .bool true])) 35 (.ptrO 2 0))) (x := .agg [.int .i64 ((cA st).1), .int .i64 ((cB st).1), .int .i64 ((cC st).1), .str ((cD st).1), (t1.cv 2 4), (t6.cv 2 5)]) (h' := ((t6.h.set 0 (bk 0 83 true (Nat.succ (t6.vr 0)) [.str ((cI (cVal d) st).1), .bool ((cI (cVal d) st).2)])).set 0 (bk 0 83 true (Nat.succ (Nat.succ (t6.vr 0))) [.str ((cI (cVal d) st).1), .bool true]))) (load_k (gso (by omega) (gso (by omega) hg2_i6)) (by kernel_rfl)) (by kernel_rfl) ?_
                refine WO.opk (y := opStore (Cg K) ((t6.h.set 0 (bk 0 83 true (Nat.succ (t6.vr 0)) [.str ((cI (cVal d) st).1), .bool ((cI (cVal d) st).2)])).set 0 (bk 0 83 true (Nat.succ (Nat.succ (t6.vr 0))) [.str ((cI (cVal d) st).1), .bool true])) 35 (.ptrO 1 0) (.agg [.int .i64 ((cA st).1), .int .i64 ((cB st).1), .int .i64 ((cC st).1), .str ((cD st).1), (t1.cv 2 4), (t6.cv 2 5)])) (x := .tup []) (h' := (((t6.h.set 0 (bk 0 83 true (Nat.succ (t6.vr 0)) [.str ((cI (cVal d) st).1), .bool ((cI (cVal d) st).2)])).set 0 (bk 0 83 true (Nat.succ (Nat.succ (t6.vr 0))) [.str ((cI (cVal d) st).1), .bool true])).set 1 (bk 1 35 true (Nat.succ (t6.vr 1)) [.int .i64 ((cA st).1), .int .i64 ((cB st).1), .int .i64 ((cC st).1), .str ((cD st).1), (t1.cv 2 4), (t6.cv 2 5)]))) (store_k (gso (by omega) (gso (by omega) hg1_i6)) (by kernel_rfl) (by kernel_rfl)) (by kernel_rfl) ?_
                refine WO.nil ?_
                refine W.ret ?_
                exact RetF.kh (vs := [.agg [.int .i64 ((cA st).1), .int .i64 ((cB st).1), .int .i64 ((cC st).1), .str ((cD st).1), (t1.cv 2 4), (t6.cv 2 5)]]) (h' := (((t6.h.set 0 (bk 0 83 true (Nat.succ (t6.vr 0)) [.str ((cI (cVal d) st).1), .bool ((cI (cVal d) st).2)])).set 0 (bk 0 83 true (Nat.succ (Nat.succ (t6.vr 0))) [.str ((cI (cVal d) st).1), .bool true])).set 1 (bk 1 35 true (Nat.succ (t6.vr 1)) [.int .i64 ((cA st).1), .int .i64 ((cB st).1), .int .i64 ((cC st).1), .str ((cD st).1), (t1.cv 2 4), (t6.cv 2 5)]))) (ver := (Nat.succ (Nat.succ (t6.vr 0)))) (cs' := [.str ((cI (cVal d) st).1), .bool true]) (by kernel_rfl) (by rw [cVal_snd]; simp [hb14, hb15]) (by kernel_rfl) (res_cell (p := .ptrO 1 0) (by kernel_rfl) (load_k gss (by kernel_rfl))) (gso (by omega) gss) (by rw [cVal_fst]; exact fr_six (k := 60) (OwnR.set (j := 0) (Or.inl (by omega)) (OwnR.set (j := 1) (Or.inl (by omega)) (OwnR.set (j := 0) (Or.inl (by omega)) (OwnR.set (j := 0) (Or.inl (by omega)) hI6.2.1)))) (OwnR.set (j := 0) (Or.inl (by omega)) (OwnR.set (j := 1) (Or.inl (by omega)) (OwnR.set (j := 0) (Or.inl (by omega)) (OwnR.set (j := 0) (Or.inl (by omega)) hy13)))))
              · refine WO.sub 79 hb15 (by kernel_rfl) ?_
                refine WO.sub 80 hb15 (by kernel_rfl) ?_
                refine WO.sub 81 hb15 (by kernel_rfl) ?_
                refine WO.adv 5 (by kernel_rfl) ?_
                refine WO.opk (y := opStore (Cg K) (t6.h.set 0 (bk 0 83 true (Nat.succ (t6.vr 0)) [.str ((cI (cVal d) st).1), .bool ((cI (cVal d) st).2)])) 4 (.ptrO 0 1) (.bool (decide ((cG st).1 < 0)))) (x := .tup []) (h' := ((t6.h.set 0 (bk 0 83 true (Nat.succ (t6.vr 0)) [.str ((cI (cVal d) st).1), .bool ((cI (cVal d) st).2)])).set 0 (bk 0 83 true (Nat.succ (Nat.succ (t6.vr 0))) [.str ((cI (cVal d) st).1), .bool (decide ((cG st).1 < 0))]))) (store_k gss (by kernel_rfl) (by kernel_rfl)) (by kernel_rfl) ?_
                refine WO.nil ?_
                refine W.seq ?_
                refine W.region ?_
                refine WO.opk (y := keep ((t6.h.set 0 (bk 0 83 true (Nat.succ (t6.vr 0)) [.str ((cI (cVal d) st).1), .bool ((cI (cVal d) st).2)])).set 0 (bk 0 83 true (Nat.succ (Nat.succ (t6.vr 0))) [.str ((cI (cVal d) st).1), .bool (decide ((cG st).1 < 0))])) (opLoad (Cg K) ((t6.h.set 0 (bk 0 83 true (Nat.succ (t6.vr 0)) [.str ((cI (cVal d) st).1), .bool ((cI (cVal d) st).2)])).set 0 (bk 0 83 true (Nat.succ (Nat.succ (t6.vr 0))) [.str ((cI (cVal d) st).1), .bool (decide ((cG st).1 < 0))])) 35 (.ptrO 2 0))) (x := .agg [.int .i64 ((cA st).1), .int .i64 ((cB st).1), .int .i64 ((cC st).1), .str ((cD st).1), (t1.cv 2 4), (t6.cv 2 5)]) (h' := ((t6.h.set 0 (bk 0 83 true (Nat.succ (t6.vr 0)) [.str ((cI (cVal d) st).1), .bool ((cI (cVal d) st).2)])).set 0 (bk 0 83 true (Nat.succ (Nat.succ (t6.vr 0))) [.str ((cI (cVal d) st).1), .bool (decide ((cG st).1 < 0))]))) (load_k (gso (by omega) (gso (by omega) hg2_i6)) (by kernel_rfl)) (by kernel_rfl) ?_
                refine WO.opk (y := opStore (Cg K) ((t6.h.set 0 (bk 0 83 true (Nat.succ (t6.vr 0)) [.str ((cI (cVal d) st).1), .bool ((cI (cVal d) st).2)])).set 0 (bk 0 83 true (Nat.succ (Nat.succ (t6.vr 0))) [.str ((cI (cVal d) st).1), .bool (decide ((cG st).1 < 0))])) 35 (.ptrO 1 0) (.agg [.int .i64 ((cA st).1), .int .i64 ((cB st).1), .int .i64 ((cC st).1), .str ((cD st).1), (t1.cv 2 4), (t6.cv 2 5)])) (x := .tup []) (h' := (((t6.h.set 0 (bk 0 83 true (Nat.succ (t6.vr 0)) [.str ((cI (cVal d) st).1), .bool ((cI (cVal d) st).2)])).set 0 (bk 0 83 true (Nat.succ (Nat.succ (t6.vr 0))) [.str ((cI (cVal d) st).1), .bool (decide ((cG st).1 < 0))])).set 1 (bk 1 35 true (Nat.succ (t6.vr 1)) [.int .i64 ((cA st).1), .int .i64 ((cB st).1), .int .i64 ((cC st).1), .str ((cD st).1), (t1.cv 2 4), (t6.cv 2 5)]))) (store_k (gso (by omega) (gso (by omega) hg1_i6)) (by kernel_rfl) (by kernel_rfl)) (by kernel_rfl) ?_
                refine WO.nil ?_
                refine W.ret ?_
                exact RetF.kh (vs := [.agg [.int .i64 ((cA st).1), .int .i64 ((cB st).1), .int .i64 ((cC st).1), .str ((cD st).1), (t1.cv 2 4), (t6.cv 2 5)]]) (h' := (((t6.h.set 0 (bk 0 83 true (Nat.succ (t6.vr 0)) [.str ((cI (cVal d) st).1), .bool ((cI (cVal d) st).2)])).set 0 (bk 0 83 true (Nat.succ (Nat.succ (t6.vr 0))) [.str ((cI (cVal d) st).1), .bool (decide ((cG st).1 < 0))])).set 1 (bk 1 35 true (Nat.succ (t6.vr 1)) [.int .i64 ((cA st).1), .int .i64 ((cB st).1), .int .i64 ((cC st).1), .str ((cD st).1), (t1.cv 2 4), (t6.cv 2 5)]))) (ver := (Nat.succ (Nat.succ (t6.vr 0)))) (cs' := [.str ((cI (cVal d) st).1), .bool (decide ((cG st).1 < 0))]) (by kernel_rfl) (by rw [cVal_snd]; simp [hb14, hb15]) (by kernel_rfl) (res_cell (p := .ptrO 1 0) (by kernel_rfl) (load_k gss (by kernel_rfl))) (gso (by omega) gss) (by rw [cVal_fst]; exact fr_six (k := 60) (OwnR.set (j := 0) (Or.inl (by omega)) (OwnR.set (j := 1) (Or.inl (by omega)) (OwnR.set (j := 0) (Or.inl (by omega)) (OwnR.set (j := 0) (Or.inl (by omega)) hI6.2.1)))) (OwnR.set (j := 0) (Or.inl (by omega)) (OwnR.set (j := 1) (Or.inl (by omega)) (OwnR.set (j := 0) (Or.inl (by omega)) (OwnR.set (j := 0) (Or.inl (by omega)) hy13)))))
    · refine WO.sub 28 hb2 (by kernel_rfl) ?_
      refine WO.sub 29 hb2 (by kernel_rfl) ?_
      refine WO.fin (by kernel_rfl) ?_
      refine W.cond false (by kernel_rfl) (fun h => by cases h) (fun _ => ?_)
      refine W.exit ?_
      have hF16 := cF_eq (st := st) (i := i1) hI1.2 (.inl (by have := of_decide_eq_false hb2; omega))
      have hz16 : t1.h.get 0 = some (bk 0 83 true (t1.vr 0) [.str ((cF st).2.1), .bool ((cF st).2.2)]) := by rw [← hF16]; exact hg0_i1
      have hy16 : OwnT t1.h (t1.cv 2 4) (cF st).1 3 t1.h.next := by rw [← hF16]; exact hI1.1
      refine blockQ ?_
      refine W.seq ?_
      refine W.region ?_
      refine WO.adv 1 (by kernel_rfl) ?_
      refine WO.callh (by kernel_rfl) (by kernel_rfl) (sign_c (n := m) (by omega) (st := ((cF st).2)) [44] (i := 0) (g := 0) (ver := (t1.vr 0)) (h := t1.h) hz16) ?_
      refine WO.nil ?_
      refine W.seq ?_
      refine W.region ?_
      refine WO.adv 1 (by kernel_rfl) ?_
      refine WO.callh (by kernel_rfl) (by kernel_rfl) (rdNumber_c (n := m) (by omega) (st := (cSign [44] (cF st).2)) [] (sg_le hlF) (i := 0) (g := 0) (ver := (Nat.succ (t1.vr 0))) (h := (t1.h.set 0 (bk 0 83 true (Nat.succ (t1.vr 0)) [.str ((cSign [44] (cF st).2).1), .bool ((cSign [44] (cF st).2).2)]))) gss) ?_
      refine WO.fin (by kernel_rfl) ?_
      refine W.seq ?_
      refine W.seq ?_
      refine W.region ?_
      refine WO.fin (by kernel_rfl) ?_
      refine W.block ?_
      refine W.loopc (len := ((cG st).2.1.length + 1)) (fun i t => (S 88 ((some (.ptrO 0 0)) :: none :: (some (.ptrO 1 0)) :: (some (.ptrO 2 0)) :: (some (.int .i64 ((cE st).1))) :: (some (.int .i64 ((i1 : Nat) : Int))) :: (some (.int .i64 ((cG st).1))) :: (some (.int .i64 ((i : Nat) : Int))) :: (some (.ptrO 0 0)) :: (some (.tup [])) :: (some (.ptrO 0 0)) :: (some (.int .i64 ((cA st).1))) :: (some (.ptrO 0 0)) :: (some (.int .i64 ((cB st).1))) :: (some (.ptrO 0 0)) :: (some (.int .i64 ((cC st).1))) :: (some (.ptrO 2 0)) :: (some (.ptrO 2 1)) :: (some (.ptrO 2 2)) :: (some (.ptrO 0 0)) :: (some (.str ((cD st).1))) :: (some (.ptrO 2 3)) :: (some (.ptrO 0 0)) :: (some (.tup [])) :: (some (.ptrO 0 0)) :: (some (.int .i64 ((cE st).1))) :: (some (.int .i64 ((i1 : Nat) : Int))) :: (some (.int .i64 ((cE st).1))) :: (some (.bool false)) :: (some (.bool false)) :: (some (.tup [])) :: (some (.tup [])) :: (some (.tup [])) :: (some (.tup [])) :: (some (.tup [])) :: (some (.bool false)) :: (t.g 36) :: (t.g 37) :: (t.g 38) :: (t.g 39) :: (t.g 40) :: (t.g 41) :: (t.g 42) :: (t.g 43) :: (t.g 44) :: (t.g 45) :: (t.g 46) :: (some (.ptrO 0 0)) :: (some (.tup [])) :: (some (.ptrO 0 0)) :: (some (.int .i64 ((cG st).1))) :: (t.g 51) :: (t.g 52) :: (t.g 53) :: (t.g 54) :: (t.g 55) :: (t.g 56) :: (t.g 57) :: (t.g 58) :: (t.g 59) :: (t.g 60) :: (t.g 61) :: (t.g 62) :: (t.g 63) :: (t.g 64) :: (t.g 65) :: (t.g 66) :: (t.g 67) :: (t.g 68) :: (t.g 69) :: none :: none :: none :: none :: none :: none :: none :: none :: none :: none :: none :: none :: none :: none :: none :: none :: none :: none :: []) t.h)) (fun i t => (OwnV t.h (t.cv 2 5) (itL (cVal d) i ([], (cG st).2)).1 t1.h.next t.h.next ∧ OwnT t.h (t1.cv 2 4) (cF st).1 3 t1.h.next ∧ ∀ j : Nat, j < i → ((j : Nat) : Int) < (cG st).1 ∧ (itL (cVal d) j ([], (cG st).2)).2.2 = false) ∧ (t.h.get 0 = some (bk 0 83 true (t.vr 0) [.str ((itL (cVal d) i ([], (cG st).2)).2.1), .bool ((itL (cVal d) i ([], (cG st).2)).2.2)])) ∧ (t.h.get 1 = some (bk 1 35 true (t.vr 1) [.int .i64 0, .int .i64 0, .int .i64 0, .str [], .nils, .nils])) ∧ (t.h.get 2 = some (bk 2 35 true (t.vr 2) [.int .i64 ((cA st).1), .int .i64 ((cB st).1), .int .i64 ((cC st).1), .str ((cD st).1), (t1.cv 2 4), (t.cv 2 5)])) ∧ (3 ≤ t.h.next)) hlK2 ?_ ?_ ?_
      · exact Told.k (by kernel_rfl)
      · refine ⟨?_, hv_fact (h := ((t1.h.set 0 (bk 0 83 true (Nat.succ (t1.vr 0)) [.str ((cSign [44] (cF st).2).1), .bool ((cSign [44] (cF st).2).2)])).set 0 (bk 0 83 true (Nat.succ (Nat.succ (t1.vr 0))) [.str ((cG st).2.1), .bool ((cG st).2.2)]))) (ver := (Nat.succ (Nat.succ (t1.vr 0)))) (cs := [.str ((cG st).2.1), .bool ((cG st).2.2)]) (by kernel_rfl) gss (by rfl), hv_fact (h := ((t1.h.set 0 (bk 0 83 true (Nat.succ (t1.vr 0)) [.str ((cSign [44] (cF st).2).1), .bool ((cSign [44] (cF st).2).2)])).set 0 (bk 0 83 true (Nat.succ (Nat.succ (t1.vr 0))) [.str ((cG st).2.1), .bool ((cG st).2.2)]))) (ver := (t1.vr 1)) (cs := [.int .i64 0, .int .i64 0, .int .i64 0, .str [], .nils, .nils]) (by kernel_rfl) (gso (by omega) (gso (by omega) hg1_i1)) (by rfl), hv_fact (h := ((t1.h.set 0 (bk 0 83 true (Nat.succ (t1.vr 0)) [.str ((cSign [44] (cF st).2).1), .bool ((cSign [44] (cF st).2).2)])).set 0 (bk 0 83 true (Nat.succ (Nat.succ (t1.vr 0))) [.str ((cG st).2.1), .bool ((cG st).2.2)]))) (ver := (t1.vr 2)) (cs := [.int .i64 ((cA st).1), .int .i64 ((cB st).1), .int .i64 ((cC st).1), .str ((cD st).1), (t1.cv 2 4), .nils]) (by kernel_rfl) (gso (by omega) (gso (by omega) hg2_i1)) (by exact six_cv5 (cv_of (h := ((t1.h.set 0 (bk 0 83 true (Nat.succ (t1.vr 0)) [.str ((cSign [44] (cF st).2).1), .bool ((cSign [44] (cF st).2).2)])).set 0 (bk 0 83 true (Nat.succ (Nat.succ (t1.vr 0))) [.str ((cG st).2.1), .bool ((cG st).2.2)]))) (b := bk 2 35 true (t1.vr 2) [.int .i64 ((cA st).1), .int .i64 ((cB st).1), .int .i64 ((cC st).1), .str ((cD st).1), (t1.cv 2 4), .nils]) (by kernel_rfl) (gso (by omega) (gso (by omega) hg2_i1)) rfl)), hv_next (h := ((t1.h.set 0 (bk 0 83 true (Nat.succ (t1.vr 0)) [.str ((cSign [44] (cF st).2).1), .bool ((cSign [44] (cF st).2).2)])).set 0 (bk 0 83 true (Nat.succ (Nat.succ (t1.vr 0))) [.str ((cG st).2.1), .bool ((cG st).2.2)]))) (by kernel_rfl) (by first | omega | (simp only [nnew, nset]; omega))⟩
        exact ⟨OwnV.at (h := ((t1.h.set 0 (bk 0 83 true (Nat.succ (t1.vr 0)) [.str ((cSign [44] (cF st).2).1), .bool ((cSign [44] (cF st).2).2)])).set 0 (bk 0 83 true (Nat.succ (Nat.succ (t1.vr 0))) [.str ((cG st).2.1), .bool ((cG st).2.2)]))) (x := .nils) (l := []) (b := bk 2 35 true (t1.vr 2) [.int .i64 ((cA st).1), .int .i64 ((cB st).1), .int .i64 ((cC st).1), .str ((cD st).1), (t1.cv 2 4), .nils]) (by kernel_rfl) (gso (by omega) (gso (by omega) hg2_i1)) rfl rfl (OwnR.nil _ _ _ (Nat.le_refl _)), OwnT.in (h := ((t1.h.set 0 (bk 0 83 true (Nat.succ (t1.vr 0)) [.str ((cSign [44] (cF st).2).1), .bool ((cSign [44] (cF st).2).2)])).set 0 (bk 0 83 true (Nat.succ (Nat.succ (t1.vr 0))) [.str ((cG st).2.1), .bool ((cG st).2.2)]))) (by kernel_rfl) (OwnR.set (j := 0) (Or.inl (by omega)) (OwnR.set (j := 0) (Or.inl (by omega)) hy16)), fun j hj => by omega⟩
      · rintro i17 t17 hi17 ⟨hI17, hg0_i17, hg1_i17, hg2_i17, hnx_i17⟩
        refine W.seq ?_
        refine W.seq ?_
        refine W.region ?_
        refine WO.adv 4 (by kernel_rfl) ?_
        refine splitB (decide (((i17 : Nat) : Int) < (cG st).1)) (fun hb18 => ?_) (fun hb18 => ?_)
        · refine WO.sub 53 hb18 (by kernel_rfl) ?_
          refine WO.sub 54 hb18 (by kernel_rfl) ?_
          refine WO.adv 3 (by kernel_rfl) ?_
          refine WO.opk (y := keep t17.h (opLoad (Cg K) t17.h 4 (.ptrO 0 1))) (x := .bool ((itL (cVal d) i17 ([], (cG st).2)).2.2)) (h' := t17.h) (load_k hg0_i17 (by kernel_rfl)) (by kernel_rfl) ?_
          refine WO.fin (by kernel_rfl) ?_
          refine W.cond (!((itL (cVal d) i17 ([], (cG st).2)).2.2)) (by kernel_rfl) (fun hb19 => ?_) (fun hb19 => ?_)
          · refine W.sub 59 hb19 (by kernel_rfl) ?_
            refine W.sub 60 hb19 (by kernel_rfl) ?_
            refine W.skip ?_
            refine W.seq ?_
            refine W.block ?_
            refine W.drawn2 (by kernel_rfl) ?_
            refine WE.adv (j' := 1) 1 (by kernel_rfl) (by kernel_rfl) ?_
            refine WE.opr (y := keep t17.h (opLoad (Cg K) t17.h 33 (.ptrO 2 5))) (x := (t17.cv 2 5)) (id := 2) (by kernel_rfl) (load_k hg2_i17 (by kernel_rfl)) (by kernel_rfl) (by kernel_rfl) (by kernel_rfl) ?_
            refine WE.adv (j' := 3) 1 (by kernel_rfl) (by kernel_rfl) ?_
            refine WE.callh (by kernel_rfl) (by kernel_rfl) (by kernel_rfl) (ih m (by omega) ((itL (cVal d) i17 ([], (cG st).2)).2) (item_less hd hI17.2.2 (by simpa using hb19)) (vl_le hl i17) 0 0 (t17.vr 0) t17.h hg0_i17) ?_
            refine WE.opa (y := some (.slO t17.h.next 0 6 1 1 true, ((t17.h.set 0 (bk 0 83 true (Nat.succ (t17.vr 0)) [.str ((cVal d ((itL (cVal d) i17 ([], (cG st).2)).2)).2.1), .bool ((cVal d ((itL (cVal d) i17 ([], (cG st).2)).2)).2.2)])).new 35 true ((cVal d ((itL (cVal d) i17 ([], (cG st).2)).2)).1.six)))) rfl (by kernel_rfl) (by kernel_rfl) ?_
            obtain ⟨x20, h20, he20, hO20, hK20⟩ := append_v (K := K) (h := ((t17.h.set 0 (bk 0 83 true (Nat.succ (t17.vr 0)) [.str ((cVal d ((itL (cVal d) i17 ([], (cG st).2)).2)).2.1), .bool ((cVal d ((itL (cVal d) i17 ([], (cG st).2)).2)).2.2)])).new 35 true ((cVal d ((itL (cVal d) i17 ([], (cG st).2)).2)).1.six))) (v := (t17.cv 2 5)) (l := (itL (cVal d) i17 ([], (cG st).2)).1) (id := t17.h.next) (g := t17.h.next) (ver := 0) (x := (cVal d ((itL (cVal d) i17 ([], (cG st).2)).2)).1) (OwnR.new (OwnR.set (j := 0) (Or.inl (by omega)) hI17.1)) (by have h1 : (itL (cVal d) i17 ([], (cG st).2)).1.length = 0 + i17 := it_cnt (B := cVal d) _ i17; omega) gnew
            have hn20 := hK20.1
            simp only [nnew, nset] at hn20
            refine WE.opm he20 (by kernel_rfl) (by kernel_rfl) ?_
            refine WE.adv (j' := 7) 1 (by kernel_rfl) (by kernel_rfl) ?_
            refine WE.opm (y := opStore (Cg K) h20 33 (.ptrO 2 5) (x20)) (x := .tup []) (h' := (h20.set 2 (bk 2 35 true (Nat.succ (t17.vr 2)) [.int .i64 ((cA st).1), .int .i64 ((cB st).1), .int .i64 ((cC st).1), .str ((cD st).1), (t1.cv 2 4), x20]))) (store_o (hK20.2 2 _ (gnewo (by first | omega | (simp only [nnew, nset]; omega)) (gso (by omega) hg2_i17)) (by first | omega | (simp only [nnew, nset]; omega)) (show 2 < t1.h.next by omega)) (OwnR.plain hO20) (by kernel_rfl) (by kernel_rfl)) (by kernel_rfl) (by kernel_rfl) ?_
            refine WE.finm (id := 2) (jc := 3) (jm := 4) (n0 := t17.h.next) (B := bk 2 35 true (t17.vr 2) [.int .i64 ((cA st).1), .int .i64 ((cB st).1), .int .i64 ((cC st).1), .str ((cD st).1), (t1.cv 2 4), (t17.cv 2 5)]) (h := t17.h) (h' := (t17.h.set 0 (bk 0 83 true (Nat.succ (t17.vr 0)) [.str ((cVal d ((itL (cVal d) i17 ([], (cG st).2)).2)).2.1), .bool ((cVal d ((itL (cVal d) i17 ([], (cG st).2)).2)).2.2)]))) (by kernel_rfl) (by kernel_rfl) (by kernel_rfl) (vblk_refl (OwnR.flat (h := t17.h) (k := 63) hI17.2.1) (OwnR.flat (h := t17.h) (k := 63) hI17.1)) hg2_i17 (gso (by omega) hg2_i17) (by omega) ?_
            refine W.region ?_
            refine WO.fin (by kernel_rfl) ?_
            have hlt : i17 < ((cG st).2.1.length + 1) := (cH_lt (d := d) (st := st) (i := i17) hI17.2.2 (by simpa using hb19))
            refine ⟨hlt, ⟨?_, hv_fact (h := (h20.set 2 (bk 2 35 true (Nat.succ (t17.vr 2)) [.int .i64 ((cA st).1), .int .i64 ((cB st).1), .int .i64 ((cC st).1), .str ((cD st).1), (t1.cv 2 4), x20]))) (ver := (Nat.succ (t17.vr 0))) (cs := [.str ((cVal d ((itL (cVal d) i17 ([], (cG st).2)).2)).2.1), .bool ((cVal d ((itL (cVal d) i17 ([], (cG st).2)).2)).2.2)]) (by kernel_rfl) (gso (by omega) (hK20.2 0 _ (gnewo (by first | omega | (simp only [nnew, nset]; omega)) gss) (by first | omega | (simp only [nnew, nset]; omega)) (show 0 < t1.h.next by omega))) (by rw [itL_succ]; first | done | rfl), hv_fact (h := (h20.set 2 (bk 2 35 true (Nat.succ (t17.vr 2)) [.int .i64 ((cA st).1), .int .i64 ((cB st).1), .int .i64 ((cC st).1), .str ((cD st).1), (t1.cv 2 4), x20]))) (ver := (t17.vr 1)) (cs := [.int .i64 0, .int .i64 0, .int .i64 0, .str [], .nils, .nils]) (by kernel_rfl) (gso (by omega) (hK20.2 1 _ (gnewo (by first | omega | (simp only [nnew, nset]; omega)) (gso (by omega) hg1_i17)) (by first | omega | (simp only [nnew, nset]; omega)) (show 1 < t1.h.next by omega))) (by rfl), hv_fact (h := (h20.set 2 (bk 2 35 true (Nat.succ (t17.vr 2)) [.int .i64 ((cA st).1), .int .i64 ((cB st).1), .int .i64 ((cC st).1), .str ((cD st).1), (t1.cv 2 4), x20]))) (ver := (Nat.succ (t17.vr 2))) (cs := [.int .i64 ((cA st).1), .int .i64 ((cB st).1), .int .i64 ((cC st).1), .str ((cD st).1), (t1.cv 2 4), x20]) (by kernel_rfl) gss (by exact six_cv5 (cv_of (h := (h20.set 2 (bk 2 35 true (Nat.succ (t17.vr 2)) [.int .i64 ((cA st).1), .int .i64 ((cB st).1), .int .i64 ((cC st).1), .str ((cD st).1), (t1.cv 2 4), x20]))) (b := bk 2 35 true (Nat.succ (t17.vr 2)) [.int .i64 ((cA st).1), .int .i64 ((cB st).1), .int .i64 ((cC st).1), .str ((cD st).1), (t1.cv 2 4), x20]) (by kernel_rfl) gss rfl)), hv_next (h := (h20.set 2 (bk 2 35 true (Nat.succ (t17.vr 2)) [.int .i64 ((cA st).1), .int .i64 ((cB st).1), .int .i64 ((cC st).1), .str ((cD st).1), (t1.cv 2 4), x20]))) (by kernel_rfl) (by first | omega | (simp only [nnew, nset]; omega))⟩, ?_⟩
            · exact ⟨OwnV.at (h := (h20.set 2 (bk 2 35 true (Nat.succ (t17.vr 2)) [.int .i64 ((cA st).1), .int .i64 ((cB st).1), .int .i64 ((cC st).1), .str ((cD st).1), (t1.cv 2 4), x20]))) (x := x20) (b := bk 2 35 true (Nat.succ (t17.vr 2)) [.int .i64 ((cA st).1), .int .i64 ((cB st).1), .int .i64 ((cC st).1), .str ((cD st).1), (t1.cv 2 4), x20]) (by kernel_rfl) gss rfl (by rw [itL_succ]; first | done | rfl) (OwnR.grow (OwnR.set (j := 2) (Or.inl (by omega)) hO20)), OwnT.in (h := (h20.set 2 (bk 2 35 true (Nat.succ (t17.vr 2)) [.int .i64 ((cA st).1), .int .i64 ((cB st).1), .int .i64 ((cC st).1), .str ((cD st).1), (t1.cv 2 4), x20]))) (by kernel_rfl) (OwnR.set (j := 2) (Or.inl (by omega)) (OwnR.keep hK20 (Nat.le_refl _) (OwnR.new (OwnR.set (j := 0) (Or.inl (by omega)) hI17.2.1)))), fun j hj => by rcases Nat.lt_succ_iff_lt_or_eq.1 hj with h | rfl; exact hI17.2.2 j h; exact ⟨of_decide_eq_true hb18, (by simpa using hb19)⟩⟩
            · refine Told.put 7 (wrapA hlt hlen2) (by kernel_rfl) ?_
              exact Told.k (by kernel_rfl)
          · refine W.sub 59 hb19 (by kernel_rfl) ?_
            refine W.sub 60 hb19 (by kernel_rfl) ?_
            refine W.exit ?_
            have hF21 := cH_eq (st := st) (i := i17) hI17.2.2 (.inr (by simpa using hb19))
            have hz21 : t17.h.get 0 = some (bk 0 83 true (t17.vr 0) [.str ((cH (cVal d) st).2.1), .bool ((cH (cVal d) st).2.2)]) := by rw [← hF21]; exact hg0_i17
            have hy21 : OwnV t17.h (t17.cv 2 5) (cH (cVal d) st).1 t1.h.next t17.h.next := by rw [← hF21]; exact hI17.1
            refine blockQ ?_
            refine W.seq ?_
            refine W.region ?_
            refine WO.adv 1 (by kernel_rfl) ?_
            refine WO.callh (by kernel_rfl) (by kernel_rfl) (sign_c (n := m) (by omega) (st := ((cH (cVal d) st).2)) [59] (i := 0) (g := 0) (ver := (t17.vr 0)) (h := t17.h) hz21) ?_
            refine WO.nil ?_
            refine W.seq ?_
            refine W.region ?_
            refine WO.adv 4 (by kernel_rfl) ?_
            refine WO.opk (y := keep (t17.h.set 0 (bk 0 83 true (Nat.succ (t17.vr 0)) [.str ((cI (cVal d) st).1), .bool ((cI (cVal d) st).2)])) (opLoad (Cg K) (t17.h.set 0 (bk 0 83 true (Nat.succ (t17.vr 0)) [.str ((cI (cVal d) st).1), .bool ((cI (cVal d) st).2)])) 4 (.ptrO 0 1))) (x := .bool ((cI (cVal d) st).2)) (h' := (t17.h.set 0 (bk 0 83 true (Nat.succ (t17.vr 0)) [.str ((cI (cVal d) st).1), .bool ((cI (cVal d) st).2)]))) (load_k gss (by kernel_rfl)) (by kernel_rfl) ?_
            refine WO.adv 1 (by kernel_rfl) ?_
            refine splitB ((cI (cVal d) st).2) (fun hb22 => ?_) (fun hb22 => ?_)
            · refine WO.sub 76 hb22 (by kernel_rfl) ?_
              refine WO.sub 77 hb22 (by kernel_rfl) ?_
              refine WO.adv 9 (by kernel_rfl) ?_
              refine WO.opk (y := opStore (Cg K) (t17.h.set 0 (bk 0 83 true (Nat.succ (t17.vr 0)) [.str ((cI (cVal d) st).1), .bool ((cI (cVal d) st).2)])) 4 (.ptrO 0 1) (.bool true)) (x := .tup []) (h' := ((t17.h.set 0 (bk 0 83 true (Nat.succ (t17.vr 0)) [.str ((cI (cVal d) st).1), .bool ((cI (cVal d) st).2)])).set 0 (bk 0 83 true (Nat.succ (Nat.succ (t17.vr 0))) [.str ((cI (cVal d) st).1), .bool true]))) (store_k gss (by kernel_rfl) (by kernel_rfl)) (by kernel_rfl) ?_
              refine WO.nil ?_
              refine W.seq ?_
              refine W.region ?_
              refine WO.opk (y := keep ((t17.h.set 0 (bk 0 83 true (Nat.succ (t17.vr 0)) [.str ((cI (cVal d) st).1), .bool ((cI (cVal d) st).2)])).set 0 (bk 0 83 true (Nat.succ (Nat.succ (t17.vr 0))) [.str ((cI (cVal d) st).1), .bool true])) (opLoad (Cg K) ((t17.h.set 0 (bk 0 83 true (Nat.succ (t17.vr 0)) [.str ((cI (cVal d) st).1), .bool ((cI (cVal d) st).2)])).set 0 (bk 0 83 true (Nat.succ (Nat.succ (t17.vr 0))) [.str ((cI (cVal d) st).1), .bool true])) 35 (.ptrO 2 0))) (x := .agg [.int .i64 ((cA st).1), .int .i64 ((cB st).1), .int .i64 ((cC st).1), .str ((cD st).1), (t1.cv 2 4), (t17.cv 2 5)]) (h' := ((t17.h.set 0 (bk 0 83 true (Nat.succ (t17.vr 0)) [.str ((cI (cVal d) st).1), .bool ((cI (cVal d) st).2)])).set 0 (bk 0 83 true (Nat.succ (Nat.succ (t17.vr 0))) [.str ((cI (cVal d) st).1), .bool true]))) (load_k (gso (by omega) (gso (by omega) hg2_i17)) (by kernel_rfl)) (by kernel_rfl) ?_
              refine WO.opk (y := opStore (Cg K) ((t17.h.set 0 (bk 0 83 true (Nat.succ (t17.vr 0)) [.str ((cI (cVal d) st).1), .bool ((cI (cVal d) st).2)])).set 0 (bk 0 83 true (Nat.succ (Nat.succ (t17.vr 0))) [.str ((cI (cVal d) st).1), .bool true])) 35 (.ptrO 1 0) (.agg [.int .i64 ((cA st).1), .int .i64 ((cB st).1), .int .i64 ((cC st).1), .str ((cD st).1), (t1.cv 2 4), (t17.cv 2 5)])) (x := .tup []) (h' := (((t17.h.set 0 (bk 0 83 true (Nat.succ (t17.vr 0)) [.str ((cI (cVal d) st).1), .bool ((cI (cVal d) st).2)])).set 0 (bk 0 83 true (Nat.succ (Nat.succ (t17.vr 0))) [.str ((cI (cVal d) st).1), .bool true])).set 1 (bk 1 35 true (Nat.succ (t17.vr 1)) [.int .i64 ((cA st).1), .int .i64 ((cB st).1), .int .i64 ((cC st).1), .str ((cD st).1), (t1.cv 2 4), (t17.cv 2 5)]))) (store_k (gso (by omega) (gso (by omega) hg1_i17)) (by kernel_rfl) (by kernel_rfl)) (by kernel_rfl) ?_
              refine WO.nil ?_
              refine W.ret ?_
              exact RetF.kh (vs := [.agg [.int .i64 ((cA st).1), .int .i64 ((cB st).1), .int .i64 ((cC st).1), .str ((cD st).1), (t1.cv 2 4), (t17.cv 2 5)]]) (h' := (((t17.h.set 0 (bk 0 83 true (Nat.succ (t17.vr 0)) [.str ((cI (cVal d) st).1), .bool ((cI (cVal d) st).2)])).set 0 (bk 0 83 true (Nat.succ (Nat.succ (t17.vr 0))) [.str ((cI (cVal d) st).1), .bool true])).set 1 (bk 1 35 true (Nat.succ (t17.vr 1)) [.int .i64 ((cA st).1), .int .i64 ((cB st).1), .int .i64 ((cC st).1), .str ((cD st).1), (t1.cv 2 4), (t17.cv 2 5)]))) (ver := (Nat.succ (Nat.succ (t17.vr 0)))) (cs' := [.str ((cI (cVal d) st).1), .bool true]) (by kernel_rfl) (by rw [cVal_snd]; simp [hb22]) (by kernel_rfl) (res_cell (p := .ptrO 1 0) (by kernel_rfl) (load_k gss (by kernel_rfl))) (gso (by omega) gss) (by rw [cVal_fst]; exact fr_six (k := 60) (OwnR.set (j := 0) (Or.inl (by omega)) (OwnR.set (j := 1) (Or.inl (by omega)) (OwnR.set (j := 0) (Or.inl (by omega)) (OwnR.set (j := 0) (Or.inl (by omega)) hI17.2.1)))) (OwnR.set (j := 0) (Or.inl (by omega)) (OwnR.set (j := 1) (Or.inl (by omega)) (OwnR.set (j := 0) (Or.inl (by omega)) (OwnR.set (j := 0) (Or.inl (by omega)) hy21)))))
            · refine WO.sub 76 hb22 (by kernel_rfl) ?_
              refine WO.sub 77 hb22 (by kernel_rfl) ?_
              refine WO.adv 4 (by kernel_rfl) ?_
              refine splitB (decide ((cE st).1 < 0)) (fun hb23 => ?_) (fun hb23 => ?_)
              · refine WO.sub 79 hb23 (by kernel_rfl) ?_
                refine WO.sub 80 hb23 (by kernel_rfl) ?_
                refine WO.sub 81 hb23 (by kernel_rfl) ?_
                refine WO.adv 5 (by kernel_rfl) ?_
                refine WO.opk (y := opStore (Cg K) (t17.h.set 0 (bk 0 83 true (Nat.succ (t17.vr 0)) [.str ((cI (cVal d) st).1), .bool ((cI (cVal d) st).2)])) 4 (.ptrO 0 1) (.bool true)) (x := .tup []) (h' := ((t17.h.set 0 (bk 0 83 true (Nat.succ (t17.vr 0)) [.str ((cI (cVal d) st).1), .bool ((cI (cVal d) st).2)])).set 0 (bk 0 83 true (Nat.succ (Nat.succ (t17.vr 0))) [.str ((cI (cVal d) st).1), .bool true]))) (store_k gss (by kernel_rfl) (by kernel_rfl)) (by kernel_rfl) ?_
                refine WO.nil ?_
                refine W.seq ?_
                refine W.region ?_
                refine WO.opk (y := keep ((t17.h.set 0 (bk 0 83 true (Nat.succ (t17.vr 0)) [.str ((cI (cVal d) st).1), .bool ((cI (cVal d) st).2)])).set 0 (bk 0 83 true (Nat.succ (Nat.succ (t17.vr 0))) [.str ((cI (cVal d) st).1), .bool true])) (opLoad (Cg K) ((t17.h.set 0 (bk 0 83 true (Nat.succ (t17.vr 0)) [.str ((cI (cVal d) st).1), .bool ((cI (cVal d) st).2)])).set 0 (bk 0 83 true (Nat.succ (Nat.succ (t17.vr 0))) [.str ((cI (cVal d) st).1), .bool true])) 35 (.ptrO 2 0))) (x := .agg [.int .i64 ((cA st).1), .int .i64 ((cB st).1), .int .i64 ((cC st).1), .str ((cD st).1), (t1.cv 2 4), (t17.cv 2 5)]) (h' := ((t17.h.set 0 (bk 0 83 true (Nat.succ (t17.vr 0)) [.str ((cI (cVal d) st).1), .bool ((cI (cVal d) st).2)])).set 0 (bk 0 83 true (Nat.succ (Nat.succ (t17.vr 0))) [.str ((cI (cVal d) st).1), .bool true]))) (load_k (gso (by omega) (gso (by omega) hg2_i17)) (by kernel_rfl)) (by kernel_rfl) ?_
                refine WO.opk (y := opStore (Cg K) ((t17.h.set 0 (bk 0 83 true (Nat.succ (t17.vr 0)) [.str ((cI (cVal d) st).1), .bool ((cI (cVal d) st).2)])).set 0 (bk 0 83 true (Nat.succ (Nat.succ (t17.vr 0))) [.str ((cI (cVal d) st).1), .bool true])) 35 (.ptrO 1 0) (.agg [.int .i64 ((cA st).1), .int .i64 ((cB st).1), .int .i64 ((cC st).1), .str ((cD st).1), (t1.cv 2 4), (t17.cv 2 5)])) (x := .tup []) (h' := (((t17.h.set 0 (bk 0 83 true (Nat.succ (t17.vr 0)) [.str ((cI (cVal d) st).1), .bool ((cI (cVal d) st).2)])).set 0 (bk 0 83 true (Nat.succ (Nat.succ (t17.vr 0))) [.str ((cI (cVal d) st).1), .bool true])).set 1 (bk 1 35 true (Nat.succ (t17.vr 1)) [.int .i64 ((cA st).1), .int .i64 ((cB st).1), .int .i64 ((cC st).1), .str ((cD st).1), (t1.cv 2 4), (t17.cv 2 5)]))) (store_k (gso (by omega) (gso (by omega) hg1_i17)) (by kernel_rfl) (by kernel_rfl)) (by kernel_rfl) ?_
                refine WO.nil ?_
                refine W.ret ?_
                exact RetF.kh (vs := [.agg [.int .i64 ((cA st).1), .int .i64 ((cB st).1), .int .i64 ((cC st).1), .str ((cD st).1), (t1.cv 2 4), (t17.cv 2 5)]]) (h' := (((t17.h.set 0 (bk 0 83 true (Nat.succ (t17.vr 0)) [.str ((cI (cVal d) st).1), .bool ((cI (cVal d) st).2)])).set 0 (bk 0 83 true (Nat.succ (Nat.succ (t17.vr 0))) [.str ((cI (cVal d) st).1), .bool true])).set 1 (bk 1 35 true (Nat.succ (t17.vr 1)) [.int .i64 ((cA st).1), .int .i64 ((cB st).1), .int .i64 ((cC st).1), .str ((cD st).1), (t1.cv 2 4), (t17.cv 2 5)]))) (ver := (Nat.succ (Nat.succ (t17.vr 0)))) (cs' := [.str ((cI (cVal d) st).1), .bool true]) (by kernel_rfl) (by rw [cVal_snd]; simp [hb22, hb23]) (by kernel_rfl) (res_cell (p := .ptrO 1 0) (by kernel_rfl) (load_k gss (by kernel_rfl))) (gso (by omega) gss) (by rw [cVal_fst]; exact fr_six (k := 60) (OwnR.set (j := 0) (Or.inl (by omega)) (OwnR.set (j := 1) (Or.inl (by omega)) (OwnR.set (j := 0) (Or.inl (by omega)) (OwnR.set (j := 0) (Or.inl (by omega)) hI17.2.1)))) (OwnR.set (j := 0) (Or.inl (by omega)) (OwnR.set (j := 1) (Or.inl (by omega)) (OwnR.set (j := 0) (Or.inl (by omega)) (OwnR.set (j := 0) (Or.inl (by omega)) hy21)))))
              · refine WO.sub 79 hb23 (by kernel_rfl) ?_
                refine WO.sub 80 hb23 (by kernel_rfl) ?_
                refine WO.sub 81 hb23 (by kernel_rfl) ?_
                refine WO.adv 5 (by kernel_rfl) ?_
                refine WO.opk (y := opStore (Cg K) (t17.h.set 0 (bk 0 83 true (Nat.succ (t17.vr 0)) [.str ((cI (cVal d) st).1), .bool ((cI (cVal d) st).2)])) 4 (.ptrO 0 1) (.bool (decide ((cG st).1 < 0)))) (x := .tup []) (h' := ((t17.h.set 0 (bk 0 83 true (Nat.succ (t17.vr 0)) [.str ((cI (cVal d) st).1), .bool ((cI (cVal d) st).2)])).set 0 (bk 0 83 true (Nat.succ (Nat.succ (t17.vr 0))) [.str ((cI (cVal d) st).1), .bool (decide ((cG st).1 < 0))]))) (store_k gss (by kernel_rfl) (by kernel_rfl)) (by kernel_rfl) ?_
                refine WO.nil ?_
                refine W.seq ?_
                refine W.region ?_
                refine WO.opk (y := keep ((t17.h.set 0 (bk 0 83 true (Nat.succ (t17.vr 0)) [.str ((cI (cVal d) st).1), .bool ((cI (cVal d) st).2)])).set 0 (bk 0 83 true (Nat.succ (Nat.succ (t17.vr 0))) [.str ((cI (cVal d) st).1), .bool (decide ((cG st).1 < 0))])) (opLoad (Cg K) ((t17.h.set 0 (bk 0 83 true (Nat.succ (t17.vr 0)) [.str ((cI (cVal d) st).1), .bool ((cI (cVal d) st).2)])).set 0 (bk 0 83 true (Nat.succ (Nat.succ (t17.vr 0))) [.str ((cI (cVal d) st).1), .bool (decide ((cG st).1 < 0))])) 35 (.ptrO 2 0))) (x := .agg [.int .i64 ((cA st).1), .int .i64 ((cB st).1), .int .i64 ((cC st).1), .str ((cD st).1), (t1.cv 2 4), (t17.cv 2 5)]) (h' := ((t17.h.set 0 (bk 0 83 true (Nat.succ (t17.vr 0)) [.str ((cI (cVal d) st).1), .bool ((cI (cVal d) st).2)])).set 0 (bk 0 83 true (Nat.succ (Nat.succ (t17.vr 0))) [.str ((cI (cVal d) st).1), .bool (decide ((cG st).1 < 0))]))) (load_k (gso (by omega) (gso (by omega) hg2_i17)) (by kernel_rfl)) (by kernel_rfl) ?_
                refine WO.opk (y := opStore (Cg K) ((t17.h.set 0 (bk 0 83 true (Nat.succ (t17.vr 0)) [.str ((cI (cVal d) st).1), .bool ((cI (cVal d) st).2)])).set 0 (bk 0 83 true (Nat.succ (Nat.succ (t17.vr 0))) [.str ((cI (cVal d) st).1), .bool (decide ((cG st).1 < 0))])) 35 (.ptrO 1 0) (.agg [.int .i64 ((cA st).1), .int .i64 ((cB st).1), .int .i64 ((cC st).1), .str ((cD st).1), (t1.cv 2 4), (t17.cv 2 5)])) (x := .tup []) (h' := (((t17.h.set 0 (bk 0 83 true (Nat.succ (t17.vr 0)) [.str ((cI (cVal d) st).1), .bool ((cI (cVal d) st).2)])).set 0 (bk 0 83 true (Nat.succ (Nat.succ (t17.vr 0))) [.str ((cI (cVal d) st).1), .bool (decide ((cG st).1 < 0))])).set 1 (bk 1 35 true (Nat.succ (t17.vr 1)) [.int .i64 ((cA st).1), .int .i64 ((cB st).1), .int .i64 ((cC st).1), .str ((cD st).1), (t1.cv 2 4), (t17.cv 2 5)]))) (store_k (gso (by omega) (gso (by omega) hg1_i17)) (by kernel_rfl) (by kernel_rfl)) (by kernel_rfl) ?_
                refine WO.nil ?_
                refine W.ret ?_
                exact RetF.kh (vs := [.agg [.int .i64 ((cA st).1), .int .i64 ((cB st).1), .int .i64 ((cC st).1), .str ((cD st).1), (t1.cv 2 4), (t17.cv 2 5)]]) (h' := (((t17.h.set 0 (bk 0 83 true (Nat.succ (t17.vr 0)) [.str ((cI (cVal d) st).1), .bool ((cI (cVal d) st).2)])).set 0 (bk 0 83 true (Nat.succ (Nat.succ (t17.vr 0))) [.str ((cI (cVal d) st).1), .bool (decide ((cG st).1 < 0))])).set 1 (bk 1 35 true (Nat.succ (t17.vr 1)) [.int .i64 ((cA st).1), .int .i64 ((cB st).1), .int .i64 ((cC st).1), .str ((cD st).1), (t1.cv 2 4), (t17.cv 2 5)]))) (ver := (Nat.succ (Nat.succ (t17.vr 0)))) (cs' := [.str ((cI (cVal d) st).1), .bool (decide ((cG st).1 < 0))]) (by kernel_rfl) (by rw [cVal_snd]; simp [hb22, hb23]) (by kernel_rfl) (res_cell (p := .ptrO 1 0) (by kernel_rfl) (load_k gss (by kernel_rfl))) (gso (by omega) gss) (by rw [cVal_fst]; exact fr_six (k := 60) (OwnR.set (j := 0) (Or.inl (by omega)) (OwnR.set (j := 1) (Or.inl (by omega)) (OwnR.set (j := 0) (Or.inl (by omega)) (OwnR.set (j := 0) (Or.inl (by omega)) hI17.2.1)))) (OwnR.set (j := 0) (Or.inl (by omega)) (OwnR.set (j := 1) (Or.inl (by omega)) (OwnR.set (j := 0) (Or.inl (by omega)) (OwnR.set (j := 0) (Or.inl (by omega)) hy21)))))
        · refine WO.sub 53 hb18 (by kernel_rfl) ?_
          refine WO.sub 54 hb18 (by kernel_rfl) ?_
          refine WO.fin (by kernel_rfl) ?_
          refine W.cond false (by kernel_rfl) (fun h => by cases h) (fun _ => ?_)
          refine W.exit ?_
          have hF24 := cH_eq (st := st) (i := i17) hI17.2.2 (.inl (by have := of_decide_eq_false hb18; omega))
          have hz24 : t17.h.get 0 = some (bk 0 83 true (t17.vr 0) [.str ((cH (cVal d) st).2.1), .bool ((cH (cVal d) st).2.2)]) := by rw [← hF24]; exact hg0_i17
          have hy24 : OwnV t17.h (t17.cv 2 5) (cH (cVal d) st).1 t1.h.next t17.h.next := by rw [← hF24]; exact hI17.1
          refine blockQ ?_
          refine W.seq ?_
          refine W.region ?_
          refine WO.adv 1 (by kernel_rfl) ?_
          refine WO.callh (by kernel_rfl) (by kernel_rfl) (sign_c (n := m) (by omega) (st := ((cH (cVal d) st).2)) [59] (i := 0) (g := 0) (ver := (t17.vr 0)) (h := t17.h) hz24) ?_
          refine WO.nil ?_
          refine W.seq ?_
          refine W.region ?_
          refine WO.adv 4 (by kernel_rfl) ?_
          refine WO.opk (y := keep (t17.h.set 0 (bk 0 83 true (Nat.succ (t17.vr 0)) [.str ((cI (cVal d) st).1), .bool ((cI (cVal d) st).2)])) (opLoad (Cg K) (t17.h.set 0 (bk 0 83 true (Nat.succ (t17.vr 0)) [.str ((cI (cVal d) st).1), .bool ((cI (cVal d) st).2)])) 4 (.ptrO 0 1))) (x := .bool ((cI (cVal d) st).2)) (h' := (t17.h.set 0 (bk 0 83 true (Nat.succ (t17.vr 0)) [.str ((cI (cVal d) st).1), .bool ((cI (cVal d) st).2)]))) (load_k gss (by kernel_rfl)) (by kernel_rfl) ?_
          refine WO.adv 1 (by kernel_rfl) ?_
          refine splitB ((cI (cVal d) st).2) (fun hb25 => ?_) (fun hb25 => ?_)
          · refine WO.sub 76 hb25 (by kernel_rfl) ?_
            refine WO.sub 77 hb25 (by kernel_rfl) ?_
            refine WO.adv 9 (by kernel_rfl) ?_
            refine WO.opk (y := opStore (Cg K) (t17.h.set 0 (bk 0 83 true (Nat.succ (t17.vr 0)) [.str ((cI (cVal d) st).1), .bool ((cI (cVal d) st).2)])) 4 (.ptrO 0 1) (.bool true)) (x := .tup []) (h' := ((t17.h.set 0 (bk 0 83 true (Nat.succ (t17.vr 0)) [.str ((cI (cVal d) st).1), .bool ((cI (cVal d) st).2)])).set 0 (bk 0 83 true (Nat.succ (Nat.succ (t17.vr 0))) [.str ((cI (cVal d) st).1), .bool true]))) (store_k gss (by kernel_rfl) (by kernel_rfl)) (by kernel_rfl) ?_
            refine WO.nil ?_
            refine W.seq ?_
            refine W.region ?_
            refine WO.opk (y := keep ((t17.h.set 0 (bk 0 83 true (Nat.succ (t17.vr 0)) [.str ((cI (cVal d) st).1), .bool ((cI (cVal d) st).2)])).set 0 (bk 0 83 true (Nat.succ (Nat.succ (t17.vr 0))) [.str ((cI (cVal d) st).1), .bool true])) (opLoad (Cg K) ((t17.h.set 0 (bk 0 83 true (Nat.succ (t17.vr 0)) [.str ((cI (cVal d) st).1), .bool ((cI (cVal d) st).2)])).set 0 (bk 0 83 true (Nat.succ (Nat.succ (t17.vr 0))) [.str ((cI (cVal d) st).1), .bool true])) 35 (.ptrO 2 0))) (x := .agg [.int .i64 ((cA st).1), .int .i64 ((cB st).1), .int .i64 ((cC st).1), .str ((cD st).1), (t1.cv 2 4), (t17.cv 2 5)]) (h' := ((t17.h.set 0 (bk 0 83 true (Nat.succ (t17.vr 0)) [.str ((cI (cVal d) st).1), .bool ((cI (cVal d) st).2)])).set 0 (bk 0 83 true (Nat.succ (Nat.succ (t17.vr 0))) [.str ((cI (cVal d) st).1), .bool true]))) (load_k (gso (by omega) (gso (by omega) hg2_i17)) (by kernel_rfl)) (by kernel_rfl) ?_
            refine WO.opk (y := opStore (Cg K) ((t17.h.set 0 (bk 0 83 true (Nat.succ (t17.vr 0)) [.str ((cI (cVal d) st).1), .bool ((cI (cVal d) st).2)])).set 0 (bk 0 83 true (Nat.succ (Nat.succ (t17.vr 0))) [.str ((cI (cVal d) st).1), .bool true])) 35 (.ptrO 1 0) (.agg [.int .i64 ((cA st).1), .int .i64 ((cB st).1), .int .i64 ((cC st).1), .str ((cD st).1), (t1.cv 2 4), (t17.cv 2 5)])) (x := .tup []) (h' := (((t17.h.set 0 (bk 0 83 true (Nat.succ (t17.vr 0)) [.str ((cI (cVal d) st).1), .bool ((cI (cVal d) st).2)])).set 0 (bk 0 83 true (Nat.succ (Nat.succ (t17.vr 0))) [.str ((cI (cVal d) st).1), .bool true])).set 1 (bk 1 35 true (Nat.succ (t17.vr 1)) [.int .i64 ((cA st).1), .int .i64 ((cB st).1), .int .i64 ((cC st).1), .str ((cD st).1), (t1.cv 2 4), (t17.cv 2 5)]))) (store_k (gso (by omega) (gso (by omega) hg1_i17)) (by kernel_rfl) (by kernel_rfl)) (by kernel_rfl) ?_
            refine WO.nil ?_
            refine W.ret ?_
            exact RetF.kh (vs := [.agg [.int .i64 ((cA st).1), .int .i64 ((cB st).1), .int .i64 ((cC st).1), .str ((cD st).1), (t1.cv 2 4), (t17.cv 2 5)]]) (h' := (((t17.h.set 0 (bk 0 83 true (Nat.succ (t17.vr 0)) [.str ((cI (cVal d) st).1), .bool ((cI (cVal d) st).2)])).set 0 (bk 0 83 true (Nat.succ (Nat.succ (t17.vr 0))) [.str ((cI (cVal d) st).1), .bool true])).set 1 (bk 1 35 true (Nat.succ (t17.vr 1)) [.int .i64 ((cA st).1), .int .i64 ((cB st).1), .int .i64 ((cC st).1), .str ((cD st).1), (t1.cv 2 4), (t17.cv 2 5)]))) (ver := (Nat.succ (Nat.succ (t17.vr 0)))) (cs' := [.str ((cI (cVal d) st).1), .bool true]) (by kernel_rfl) (by rw [cVal_snd]; simp [hb25]) (by kernel_rfl) (res_cell (p := .ptrO 1 0) (by kernel_rfl) (load_k gss (by kernel_rfl))) (gso (by omega) gss) (by rw [cVal_fst]; exact fr_six (k := 60) (OwnR.set (j := 0) (Or.inl (by omega)) (OwnR.set (j := 1) (Or.inl (by omega)) (OwnR.set (j := 0) (Or.inl (by omega)) (OwnR.set (j := 0) (Or.inl (by omega)) hI17.2.1)))) (OwnR.set (j := 0) (Or.inl (by omega)) (OwnR.set (j := 1) (Or.inl (by omega)) (OwnR.set (j := 0) (Or.inl (by omega)) (OwnR.set (j := 0) (Or.inl (by omega)) hy24)))))
          · refine WO.sub 76 hb25 (by kernel_rfl) ?_
            refine WO.sub 77 hb25 (by kernel_rfl) ?_
            refine WO.adv 4 (by kernel_rfl) ?_
            refine splitB (decide ((cE st).1 < 0)) (fun hb26 => ?_) (fun hb26 => ?_)
            · refine WO.sub 79 hb26 (by kernel_rfl) ?_
              refine WO.sub 80 hb26 (by kernel_rfl) ?_
              refine WO.sub 81 hb26 (by kernel_rfl) ?_
              refine WO.adv 5 (by kernel_rfl) ?_
              refine WO.opk (y := opStore (Cg K) (t17.h.set 0 (bk 0 83 true (Nat.succ (t17.vr 0)) [.str ((cI (cVal d) st).1), .bool ((cI (cVal d) st).2)])) 4 (.ptrO 0 1) (.bool true)) (x := .tup []) (h' := ((t17.h.set 0 (bk 0 83 true (Nat.succ (t17.vr 0)) [.str ((cI (cVal d) st).1), .bool ((cI (cVal d) st).2)])).set 0 (bk 0 83 true (Nat.succ (Nat.succ (t17.vr 0))) [.str ((cI (cVal d) st).1), .bool true]))) (store_k gss (by kernel_rfl) (by kernel_rfl)) (by kernel_rfl) ?_
              refine WO.nil ?_
              refine W.seq ?_
              refine W.region ?_
              refine WO.opk (y := keep ((t17.h.set 0 (bk 0 83 true (Nat.succ (t17.vr 0)) [.str ((cI (cVal d) st).1), .bool ((cI (cVal d) st).2)])).set 0 (bk 0 83 true (Nat.succ (Nat.succ (t17.vr 0))) [.str ((cI (cVal d) st).1), .bool true])) (opLoad (Cg K) ((t17.h.set 0 (bk 0 83 true (Nat.succ (t17.vr 0)) [.str ((cI (cVal d) st).1), .bool ((cI (cVal d) st).2)])).set 0 (bk 0 83 true (Nat.succ (Nat.succ (t17.vr 0))) [.str ((cI (cVal d) st).1), .bool true])) 35 (.ptrO 2 0))) (x := .agg [.int .i64 ((cA st).1), .int .i64 ((cB st).1), .int .i64 ((cC st).1), .str ((cD st).1), (t1.cv 2 4), (t17.cv 2 5)]) (h' := ((t17.h.set 0 (bk 0 83 true (Nat.succ (t17.vr 0)) [.str ((cI (cVal d) st).1), .bool ((cI (cVal d) st).2)])).set 0 (bk 0 83 true (Nat.succ (Nat.succ (t17.vr 0))) [.str ((cI (cVal d) st).1), .bool true]))) (load_k (gso (by omega) (gso (by omega) hg2_i17)) (by kernel_rfl)) (by kernel_rfl) ?_
              refine WO.opk (y := opStore (Cg K) ((t17.h.set 0 (bk 0 83 true (Nat.succ (t17.vr 0)) [.str ((cI (cVal d) st).1), .bool ((cI (cVal d) st).2)])).set 0 (bk 0 83 true (Nat.succ (Nat.succ (t17.vr 0))) [.str ((cI (cVal d) st).1), .bool true])) 35 (.ptrO 1 0) (.agg [.int .i64 ((cA st).1), .int .i64 ((cB st).1), .int .i64 ((cC st).1), .str ((cD st).1), (t1.cv 2 4), (t17.cv 2 5)])) (x := .tup []) (h' := (((t17.h.set 0 (bk 0 83 true (Nat.succ (t17.vr 0)) [.str ((cI (cVal d) st).1), .bool ((cI (cVal d) st).2)])).set 0 (bk 0 83 true (Nat.succ (Nat.succ (t17.vr 0))) [.str ((cI (cVal d) st).1), .bool true])).set 1 (bk 1 35 true (Nat.succ (t17.vr 1)) [.int .i64 ((cA st).1), .int .i64 ((cB st).1), .int .i64 ((cC st).1), .str ((cD st).1), (t1.cv 2 4), (t17.cv 2 5)]))) (store_k (gso (by omega) (gso (by omega) hg1_i17)) (by kernel_rfl) (by kernel_rfl)) (by kernel_rfl) ?_
              refine WO.nil ?_
              refine W.ret ?_
              exact RetF.kh (vs := [.agg [.int .i64 ((cA st).1), .int .i64 ((cB st).1), .int .i64 ((cC st).1), .str ((cD st).1), (t1.cv 2 4), (t17.cv 2 5)]]) (h' := (((t17.h.set 0 (bk 0 83 true (Nat.succ (t17.vr 0)) [.str ((cI (cVal d) st).1), .bool ((cI (cVal d) st).2)])).set 0 (bk 0 83 true (Nat.succ (Nat.succ (t17.vr 0))) [.str ((cI (cVal d) st).1), .bool true])).set 1 (bk 1 35 true (Nat.succ (t17.vr 1)) [.int .i64 ((cA st).1), .int .i64 ((cB st).1), .int .i64 ((cC st).1), .str ((cD st).1), (t1.cv 2 4), (t17.cv 2 5)]))) (ver := (Nat.succ (Nat.succ (t17.vr 0)))) (cs' := [.str ((cI (cVal d) st).1), .bool true]) (by kernel_rfl) (by rw [cVal_snd]; simp [hb25, hb26]) (by kernel_rfl) (res_cell (p := .ptrO 1 0) (by kernel_rfl) (load_k gss (by kernel_rfl))) (gso (by omega) gss) (by rw [cVal_fst]; exact fr_six (k := 60) (OwnR.set (j := 0) (Or.inl (by omega)) (OwnR.set (j := 1) (Or.inl (by omega)) (OwnR.set (j := 0) (Or.inl (by omega)) (OwnR.set (j := 0) (Or.inl (by omega)) hI17.2.1)))) (OwnR.set (j := 0) (Or.inl (by omega)) (OwnR.set (j := 1) (Or.inl (by omega)) (OwnR.set (j := 0) (Or.inl (by omega)) (OwnR.set (j := 0) (Or.inl (by omega)) hy24)))))
            · refine WO.sub 79 hb26 (by kernel_rfl) ?_
              refine WO.sub 80 hb26 (by kernel_rfl) ?_
              refine WO.sub 81 hb26 (by kernel_rfl) ?_
              refine WO.adv 5 (by kernel_rfl) ?_
              refine WO.opk (y := opStore (Cg K) (t17.h.set 0 (bk 0 83 true (Nat.succ (t17.vr 0)) [.str ((cI (cVal d) st).1), .bool ((cI (cVal d) st).2)])) 4 (.ptrO 0 1) (.bool (decide ((cG st).1 < 0)))) (x := .tup []) (h' := ((t17.h.set 0 (bk 0 83 true (Nat.succ (t17.vr 0)) [.str ((cI (cVal d) st).1), .bool ((cI (cVal d) st).2)])).set 0 (bk 0 83 true (Nat.succ (Nat.succ (t17.vr 0))) [.str ((cI (cVal d) st).1), .bool (decide ((cG st).1 < 0))]))) (store_k gss (by kernel_rfl) (by kernel_rfl)) (by kernel_rfl) ?_
              refine WO.nil ?_
              refine W.seq ?_
              refine W.region ?_
              refine WO.opk (y := keep ((t17.h.set 0 (bk 0 83 true (Nat.succ (t17.vr 0)) [.str ((cI (cVal d) st).1), .bool ((cI (cVal d) st).2)])).set 0 (bk 0 83 true (Nat.succ (Nat.succ (t17.vr 0))) [.str ((cI (cVal d) st).1), .bool (decide ((cG st).1 < 0))])) (opLoad (Cg K) ((t17.h.set 0 (bk 0 83 true (Nat.succ (t17.vr 0)) [.str ((cI (cVal d) st).1), .bool ((cI (cVal d) st).2)])).set 0 (bk 0 83 true (Nat.succ (Nat.succ (t17.vr 0))) [.str ((cI (cVal d) st).1), .bool (decide ((cG st).1 < 0))])) 35 (.ptrO 2 0))) (x := .agg [.int .i64 ((cA st).1), .int .i64 ((cB st).1), .int .i64 ((cC st).1), .str ((cD st).1), (t1.cv 2 4), (t17.cv 2 5)]) (h' := ((t17.h.set 0 (bk 0 83 true (Nat.succ (t17.vr 0)) [.str ((cI (cVal d) st).1), .bool ((cI (cVal d) st).2)])).set 0 (bk 0 83 true (Nat.succ (Nat.succ (t17.vr 0))) [.str ((cI (cVal d) st).1), .bool (decide ((cG st).1 < 0))]))) (load_k (gso (by omega) (gso (by omega) hg2_i17)) (by kernel_rfl)) (by kernel_rfl) ?_
              refine WO.opk (y := opStore (Cg K) ((t17.h.set 0 (bk 0 83 true (Nat.succ (t17.vr 0)) [.str ((cI (cVal d) st).1), .bool ((cI (cVal d) st).2)])).set 0 (bk 0 83 true (Nat.succ (Nat.succ (t17.vr 0))) [.str ((cI (cVal d) st).1), .bool (decide ((cG st).1 < 0))])) 35 (.ptrO 1 0) (.agg [.int .i64 ((cA st).1), .int .i64 ((cB st).1), .int .i64 ((cC st).1), .str ((cD st).1), (t1.cv 2 4), (t17.cv 2 5)])) (x := .tup []) (h' := (((t17.h.set 0 (bk 0 83 true (Nat.succ (t17.vr 0)) [.str ((cI (cVal d) st).1), .bool ((cI (cVal d) st).2)])).set 0 (bk 0 83 true (Nat.succ (Nat.succ (t17.vr 0))) [.str ((cI (cVal d) st).1), .bool (decide ((cG st).1 < 0))])).set 1 (bk 1 35 true (Nat.succ (t17.vr 1)) [.int .i64 ((cA st).1), .int .i64 ((cB st).1), .int .i64 ((cC st).1), .str ((cD st).1), (t1.cv 2 4), (t17.cv 2 5)]))) (store_k (gso (by omega) (gso (by omega) hg1_i17)) (by kernel_rfl) (by kernel_rfl)) (by kernel_rfl) ?_
              refine WO.nil ?_
              refine W.ret ?_
              exact RetF.kh (vs := [.agg [.int .i64 ((cA st).1), .int .i64 ((cB st).1), .int .i64 ((cC st).1), .str ((cD st).1), (t1.cv 2 4), (t17.cv 2 5)]]) (h' := (((t17.h.set 0 (bk 0 83 true (Nat.succ (t17.vr 0)) [.str ((cI (cVal d) st).1), .bool ((cI (cVal d) st).2)])).set 0 (bk 0 83 true (Nat.succ (Nat.succ (t17.vr 0))) [.str ((cI (cVal d) st).1), .bool (decide ((cG st).1 < 0))])).set 1 (bk 1 35 true (Nat.succ (t17.vr 1)) [.int .i64 ((cA st).1), .int .i64 ((cB st).1), .int .i64 ((cC st).1), .str ((cD st).1), (t1.cv 2 4), (t17.cv 2 5)]))) (ver := (Nat.succ (Nat.succ (t17.vr 0)))) (cs' := [.str ((cI (cVal d) st).1), .bool (decide ((cG st).1 < 0))]) (by kernel_rfl) (by rw [cVal_snd]; simp [hb25, hb26]) (by kernel_rfl) (res_cell (p := .ptrO 1 0) (by kernel_rfl) (load_k gss (by kernel_rfl))) (gso (by omega) gss) (by rw [cVal_fst]; exact fr_six (k := 60) (OwnR.set (j := 0) (Or.inl (by omega)) (OwnR.set (j := 1) (Or.inl (by omega)) (OwnR.set (j := 0) (Or.inl (by omega)) (OwnR.set (j := 0) (Or.inl (by omega)) hI17.2.1)))) (OwnR.set (j := 0) (Or.inl (by omega)) (OwnR.set (j := 1) (Or.inl (by omega)) (OwnR.set (j := 0) (Or.inl (by omega)) (OwnR.set (j := 0) (Or.inl (by omega)) hy24)))))

theorem rdValue_c (hK : big ≤ K) : ∀ d, ValOk K d
  | 0 => fun _ _ _ hd => absurd hd (Nat.not_lt_zero _)
  | d + 1 => rdVal_step hK (rdValue_c hK d)
end
end Go.Abs
namespace Go.Abs
noncomputable section
open Go Go.Proofs
variable {K : Nat}
/-! ## What is read is neither deep nor long -/
section
variable {α : Type} {B : RS → α × RS} {P : α → Prop}
theorem cLoop_all (hB : ∀ a : RS, a.1.length ≤ 4000 → P (B a).1) (hl : ∀ a, (B a).2.1.length ≤ a.1.length) {n : Int} : ∀ (f : Nat) (i : Int) (r : List α × RS), r.2.1.length ≤ 4000 → (∀ x ∈ r.1, P x) → ∀ x ∈ (cLoop B n f i r).1, P x
  | 0, _, r, _, h => h
  | f + 1, i, r, hr, h => by
    unfold cLoop
    cases decide (i < n) && !r.2.2 with
    | false => exact h
    | true =>
      simp only [cond_true]
      refine cLoop_all hB hl f (i + 1) _ (Nat.le_trans (hl _) hr) fun x hx => ?_
      rcases List.mem_append.1 hx with hx | hx
      · exact h x hx
      · rw [List.mem_singleton.1 hx]; exact hB _ hr
theorem cLoop_cnt {n : Int} : ∀ (f : Nat) (i : Int) (r : List α × RS), (cLoop B n f i r).1.length ≤ r.1.length + f
  | 0, _, r => Nat.le_refl _
  | f + 1, i, r => by
    unfold cLoop
    cases decide (i < n) && !r.2.2 with
    | false => simp only [cond_false]; omega
    | true =>
      simp only [cond_true]
      refine Nat.le_trans (cLoop_cnt f (i + 1) _) ?_
      simp only [List.length_append, List.length_cons, List.length_nil]; omega
theorem rLoop_all (hB : ∀ a : RS, P (B a).1) : ∀ (k : Nat) (r : List α × RS), (∀ x ∈ r.1, P x) → ∀ x ∈ (rLoop B k r).1, P x
  | 0, r, h => h
  | k + 1, r, h => by
    unfold rLoop
    cases r.2.2 with
    | true => exact h
    | false =>
      simp only [cond_false]
      refine rLoop_all hB k _ fun x hx => ?_
      rcases List.mem_append.1 hx with hx | hx
      · exact h x hx
      · rw [List.mem_singleton.1 hx]; exact hB _
theorem rLoop_cnt : ∀ (k : Nat) (r : List α × RS), (rLoop B k r).1.length ≤ r.1.length + k
  | 0, r => Nat.le_refl _
  | k + 1, r => by
    unfold rLoop
    cases r.2.2 with
    | true => simp only [cond_true]; omega
    | false =>
      simp only [cond_false]
      refine Nat.le_trans (rLoop_cnt k _) ?_
      simp only [List.length_append, List.length_cons, List.length_nil]; omega
end
theorem depL_le : ∀ (l : List Val) (k : Nat), (∀ x ∈ l, x.dep ≤ k) → depL l ≤ k
  | [], k, _ => by rw [depL]; omega
  | v :: l, k, h => by
    rw [depL]
    exact Nat.max_le.2 ⟨h v (List.mem_cons_self ..), depL_le l k fun x hx => h x (List.mem_cons_of_mem _ hx)⟩
theorem okL_of : ∀ (l : List Val), (∀ x ∈ l, x.ok) → okL l
  | [], _ => by rw [okL]; trivial
  | v :: l, h => by rw [okL]; exact ⟨h v (List.mem_cons_self ..), okL_of l fun x hx => h x (List.mem_cons_of_mem _ hx)⟩
theorem def_dep : (default : Val).dep = 1 := by show (Val.mk 0 0 0 [] true [] true []).dep = 1; rw [Val.dep, depL]
theorem def_ok : (default : Val).ok := by
  show (Val.mk 0 0 0 [] true [] true []).ok
  rw [Val.ok, okL]
  refine ⟨?_, ?_, trivial⟩ <;> (unfold big; simp)
theorem cVal_sm : ∀ (d : Nat) (st : RS), st.1.length ≤ 4000 → (cVal d st).1.dep ≤ d + 1 ∧ (cVal d st).1.ok
  | 0, st, _ => by
    rw [cVal]
    exact ⟨by show (default : Val).dep ≤ 1; rw [def_dep]; exact Nat.le_refl _, def_ok⟩
  | d + 1, st, hl => by
    have hE : (cE st).2.1.length ≤ 4000 := Nat.le_trans (@cE_le st) hl
    have hG : (cG st).2.1.length ≤ 4000 := Nat.le_trans (@cG_le st) hl
    have ih : ∀ x ∈ (cH (cVal d) st).1, x.dep ≤ d + 1 ∧ x.ok := by
      unfold cH
      exact cLoop_all (P := fun x : Val => x.dep ≤ d + 1 ∧ x.ok) (fun a ha => cVal_sm d a ha) (fun a => cVal_len d a) _ _ _ hG (fun x hx => by cases hx)
    have h1 : (cF st).1.length ≤ 4001 := by
      unfold cF
      refine Nat.le_trans (cLoop_cnt _ _ _) ?_
      show 0 + ((cE st).2.1.length + 1) ≤ _; omega
    have h2 : (cH (cVal d) st).1.length ≤ 4001 := by
      unfold cH
      refine Nat.le_trans (cLoop_cnt _ _ _) ?_
      show 0 + ((cG st).2.1.length + 1) ≤ _; omega
    rw [cVal_fst]
    constructor
    · rw [Val.dep]
      generalize hw : (cH (cVal d) st).1 = l at ih ⊢
      have := depL_le l (d + 1) fun x hx => (ih x hx).1
      omega
    · rw [Val.ok]
      generalize hw : (cH (cVal d) st).1 = l at ih h2 ⊢
      exact ⟨by unfold big; omega, by unfold big; omega, okL_of l fun x hx => (ih x hx).2⟩
theorem rCount_le (L : Nat) (st : RS) : 0 ≤ (rCount L st).1 ∧ (rCount L st).1 ≤ ((L : Nat) : Int) := by
  unfold rCount
  cases h : decide (0 ≤ (rNum st).1) && decide ((rNum st).1 ≤ ((L : Nat) : Int)) with
  | true =>
    rw [Bool.and_eq_true] at h
    exact ⟨of_decide_eq_true h.1, of_decide_eq_true h.2⟩
  | false => simp only [cond_false]; exact ⟨Int.le_refl _, by omega⟩
theorem rVal_sm (L : Nat) (hL : L ≤ 4000) : ∀ (d : Nat) (deep : Int) (st : RS), (rVal L d deep st).1.dep ≤ d + 1 ∧ (rVal L d deep st).1.ok
  | 0, deep, st => by
    rw [rVal]
    exact ⟨by show (default : Val).dep ≤ 1; rw [def_dep]; exact Nat.le_refl _, def_ok⟩
  | d + 1, deep, st => by
    have ih : ∀ x ∈ (rH L (rVal L d (deep + 1)) st).1, x.dep ≤ d + 1 ∧ x.ok := by
      unfold rH
      exact rLoop_all (P := fun x : Val => x.dep ≤ d + 1 ∧ x.ok) (fun a => rVal_sm L hL d (deep + 1) a) _ _ (fun x hx => by cases hx)
    have h1 : (rF L st).1.length ≤ 4000 := by
      unfold rF
      refine Nat.le_trans (rLoop_cnt _ _) ?_
      have := rCount_le L (rTake 44 (rD L st).2)
      show 0 + (rE L st).1.toNat ≤ _
      have : (rE L st).1 ≤ ((L : Nat) : Int) := this.2
      omega
    have h2 : (rH L (rVal L d (deep + 1)) st).1.length ≤ 4000 := by
      unfold rH
      refine Nat.le_trans (rLoop_cnt _ _) ?_
      have := rCount_le L (rTake 44 (rF L st).2)
      show 0 + (rG L st).1.toNat ≤ _
      have : (rG L st).1 ≤ ((L : Nat) : Int) := this.2
      omega
    rw [rVal]
    cases st.2 || decide (deep > 4000) with
    | true =>
      simp only [cond_true]
      exact ⟨by show (default : Val).dep ≤ _; rw [def_dep]; omega, def_ok⟩
    | false =>
      simp only [cond_false]
      constructor
      · rw [Val.dep]
        generalize hw : (rH L (rVal L d (deep + 1)) st).1 = l at ih ⊢
        have := depL_le l (d + 1) fun x hx => (ih x hx).1
        omega
      · rw [Val.ok]
        generalize hw : (rH L (rVal L d (deep + 1)) st).1 = l at ih h2 ⊢
        exact ⟨by unfold big; omega, by unfold big; omega, okL_of l fun x hx => (ih x hx).2⟩

/-! ## The program's reader of events -/
section
variable {s : List UInt8}
theorem len_ok (h : decide (((lenN s : Nat) : Int) > 4000) = false) : s.length ≤ 4000 := by
  have h := of_decide_eq_false h
  rw [lenN_eq] at h
  omega
theorem qA_len : (qA s).2.1.length ≤ s.length := cNum_len [32] (s, false)
theorem qB_len : (qB s).2.1.length ≤ s.length := by unfold qB; exact Nat.le_trans (cNum_len _ _) qA_len
theorem qC_len : (qC s).2.1.length ≤ s.length := by unfold qC; exact Nat.le_trans (cNum_len _ _) qB_len
theorem qD_len : (qD s).2.1.length ≤ s.length := by unfold qD; exact Nat.le_trans (cText_len _) qC_len
theorem qE_len : (qE s).2.1.length ≤ s.length := by unfold qE; exact Nat.le_trans (cText_len _) (Nat.le_trans (cSign_len _ _) qD_len)
theorem qX_len : (cSign [32] (qE s).2).1.length ≤ s.length := Nat.le_trans (cSign_len _ _) qE_len
theorem cEv_sm (h : s.length ≤ 4000) : (cEv s).val.dep ≤ s.length + 2 ∧ (cEv s).val.ok := by
  have := cVal_sm (s.length + 1) (cSign [32] (qE s).2) (Nat.le_trans qX_len h)
  exact this
theorem rEv_sm (h : s.length ≤ 4000) : (rEv s).val.dep ≤ s.length + 2 ∧ (rEv s).val.ok := by
  have := rVal_sm s.length h (s.length + 1) 0 (rTake 32 (pE s).2)
  exact this
theorem beq_nil (x : List UInt8) : beqBytes x [] = decide (x = []) := by
  cases x with
  | nil => rfl
  | cons a l => rfl
theorem cParse_long (h : decide (((lenN s : Nat) : Int) > 4000) = true) : cParse s = (default, 2) := by unfold cParse; rw [h]; rfl
theorem cParse_bad (h : decide (((lenN s : Nat) : Int) > 4000) = false) (h2 : ((qF s).2.2 || !(beqBytes (qF s).2.1 [])) = true) : cParse s = (default, 8) := by
  rw [beq_nil] at h2
  unfold cParse; rw [h, h2]; rfl
theorem cParse_err (h : decide (((lenN s : Nat) : Int) > 4000) = false) (h2 : ((qF s).2.2 || !(beqBytes (qF s).2.1 [])) = false) (h3 : (evErr (cEv s) != 0) = true) : cParse s = (default, evErr (cEv s)) := by
  rw [beq_nil] at h2
  unfold cParse; rw [h, h2, h3]; rfl
theorem cParse_ok (h : decide (((lenN s : Nat) : Int) > 4000) = false) (h2 : ((qF s).2.2 || !(beqBytes (qF s).2.1 [])) = false) (h3 : (evErr (cEv s) != 0) = false) : cParse s = (cEv s, 0) := by
  rw [beq_nil] at h2
  unfold cParse; rw [h, h2, h3]; rfl
end
end
end Go.Abs
namespace Go.Abs
noncomputable section
open Go Go.Proofs
variable {K : Nat}
theorem fr_ev {h : Heap} {k : Nat} (e : Ev) (n : Int) : freezeA h (k + 4) (.tup [.agg e.elv, .int .i64 n]) = some (.tup [.agg e.elv, .int .i64 n]) := by
  have h1 : freezeA h (k + 2) e.val.namesA = some e.val.namesA := freeze_sl h (k + 1) _ _ _
  have h2 : freezeA h (k + 2) e.val.itemsA = some e.val.itemsA := freeze_sl h (k + 1) _ _ _
  have h3 : freezeA h (k + 3) (.agg e.elv) = some (.agg e.elv) := by
    unfold Ev.elv
    rw [freezeA_succ]
    simp only [freezeL_cons, h1, h2]
    rfl
  rw [freezeA_succ]
  simp only [freezeL_cons, h3]
  rfl
set_option maxRecDepth 20000 in
theorem parseEvent_c {n : Nat}  (hn : 4020 ≤ n) (s : List UInt8) (hK : big ≤ K)  (h : Heap) : (fns (Cg K) n).call 23 [.str s] h none = some (.val (.tup [.agg (cParse s).1.elv, .int .i64 (cParse s).2]) h none) := by
  obtain ⟨m, rfl⟩ : ∃ m, n = m + 1 := ⟨n - 1, by omega⟩
  refine pureq (C := Cg K) (F := fns (Cg K) m) (fn := Tryz.f23) (c := bodyOf Tryz.f23) (by kernel_rfl) (by kernel_rfl) (by kernel_rfl) (by kernel_rfl) (by kernel_rfl) (by kernel_rfl) (by kernel_rfl) ?_ h
  refine W.seq ?_
  refine W.region ?_
  refine WO.fin (by kernel_rfl) ?_
  refine W.seq ?_
  refine W.seq ?_
  refine W.region ?_
  refine WO.fin (by kernel_rfl) ?_
  refine W.cond (decide (((lenN s : Nat) : Int) > 4000)) (by kernel_rfl) (fun hb1 => ?_) (fun hb1 => ?_)
  · refine W.sub 9 hb1 (by kernel_rfl) ?_
    refine W.seq ?_
    refine W.region ?_
    refine WO.fin (by kernel_rfl) ?_
    refine W.ret ?_
    exact RetQ.k (v' := .tup [.agg [.int .i64 0, .int .i64 0, .str [], .str [], .int .i64 0, .int .i64 0, .int .i64 0, .str [], .nils, .nils, .int .i64 0], .int .i64 2]) (by rw [cParse_long hb1]; kernel_rfl) (by kernel_rfl) (by kernel_rfl)
  · refine W.sub 9 hb1 (by kernel_rfl) ?_
    refine W.skip ?_
    refine W.seq ?_
    refine W.region ?_
    refine WO.fin (by kernel_rfl) ?_
    refine W.seq ?_
    refine W.region ?_
    refine WO.adv 1 (by kernel_rfl) ?_
    refine WO.callh (by kernel_rfl) rfl (rdNumber_c (n := m) (by omega) (st := (s, false)) [32] (len_ok hb1) (i := 1) (g := 1) (ver := 0)  (by kernel_rfl)) ?_
    refine WO.adv 1 (by kernel_rfl) ?_
    refine WO.callh (by kernel_rfl) rfl (rdNumber_c (n := m) (by omega) (st := ((qA s).2)) [32] (Nat.le_trans (@qA_len s) (len_ok hb1)) (i := 1) (g := 1) (ver := (Nat.succ 0))  (by kernel_rfl)) ?_
    refine WO.adv 1 (by kernel_rfl) ?_
    refine WO.callh (by kernel_rfl) rfl (rdNumber_c (n := m) (by omega) (st := ((qB s).2)) [32] (Nat.le_trans (@qB_len s) (len_ok hb1)) (i := 1) (g := 1) (ver := (Nat.succ (Nat.succ 0)))  (by kernel_rfl)) ?_
    refine WO.fin (by kernel_rfl) ?_
    refine W.seq ?_
    refine W.region ?_
    refine WO.adv 1 (by kernel_rfl) ?_
    refine WO.callh (by kernel_rfl) rfl (rdText_c (n := m) (by omega) (st := ((qC s).2)) (Nat.le_trans (@qC_len s) (len_ok hb1)) (i := 1) (g := 1) (ver := (Nat.succ (Nat.succ (Nat.succ 0))))  (by kernel_rfl)) ?_
    refine WO.fin (by kernel_rfl) ?_
    refine W.seq ?_
    refine W.region ?_
    refine WO.adv 1 (by kernel_rfl) ?_
    refine WO.callh (by kernel_rfl) rfl (sign_c (n := m) (by omega) (st := ((qD s).2)) [32] (i := 1) (g := 1) (ver := (Nat.succ (Nat.succ (Nat.succ (Nat.succ 0)))))  (by kernel_rfl)) ?_
    refine WO.nil ?_
    refine W.seq ?_
    refine W.region ?_
    refine WO.adv 1 (by kernel_rfl) ?_
    refine WO.callh (by kernel_rfl) rfl (rdText_c (n := m) (by omega) (st := (cSign [32] (qD s).2)) (sg_le (Nat.le_trans (@qD_len s) (len_ok hb1))) (i := 1) (g := 1) (ver := (Nat.succ (Nat.succ (Nat.succ (Nat.succ (Nat.succ 0))))))  (by kernel_rfl)) ?_
    refine WO.fin (by kernel_rfl) ?_
    refine W.seq ?_
    refine W.region ?_
    refine WO.adv 1 (by kernel_rfl) ?_
    refine WO.callh (by kernel_rfl) rfl (sign_c (n := m) (by omega) (st := ((qE s).2)) [32] (i := 1) (g := 1) (ver := (Nat.succ (Nat.succ (Nat.succ (Nat.succ (Nat.succ (Nat.succ 0)))))))  (by kernel_rfl)) ?_
    refine WO.nil ?_
    refine W.seq ?_
    refine W.region ?_
    refine WO.adv 1 (by kernel_rfl) ?_
    refine WO.callh (by kernel_rfl) (by kernel_rfl) (rdValue_c hK (s.length + 1) m (by have := len_ok hb1; omega) (cSign [32] (qE s).2) (Nat.lt_succ_of_le qX_len) (Nat.le_trans qX_len (len_ok hb1)) 1 1 (Nat.succ (Nat.succ (Nat.succ (Nat.succ (Nat.succ (Nat.succ (Nat.succ 0))))))) (hpL [bk 0 37 true 0 [.int .i64 0, .int .i64 0, .str [], .str [], .int .i64 0, .int .i64 0, .int .i64 0, .str [], .nils, .nils, .int .i64 0], bk 1 83 true (Nat.succ (Nat.succ (Nat.succ (Nat.succ (Nat.succ (Nat.succ (Nat.succ 0))))))) [.str ((cSign [32] (qE s).2).1), .bool ((cSign [32] (qE s).2).2)], bk 2 37 true 3 [.int .i64 ((qA s).1), .int .i64 ((qB s).1), .str ((qD s).1), .str ((qE s).1), .int .i64 0, .int .i64 0, .int .i64 0, .str [], .nils, .nils, .int .i64 ((qC s).1)]]) (by kernel_rfl)) ?_
    refine WO.fin (by kernel_rfl) ?_
    refine W.seq ?_
    refine W.seq ?_
    refine W.region ?_
    refine WO.adv 5 (by kernel_rfl) ?_
    refine splitB ((qF s).2.2) (fun hb2 => ?_) (fun hb2 => ?_)
    · refine WO.sub 37 hb2 (by kernel_rfl) ?_
      refine WO.sub 38 hb2 (by kernel_rfl) ?_
      refine WO.fin (by kernel_rfl) ?_
      refine W.cond true (by kernel_rfl) (fun _ => ?_) (fun h => by cases h)
      refine W.seq ?_
      refine W.region ?_
      refine WO.fin (by kernel_rfl) ?_
      refine W.ret ?_
      exact RetQ.k (v' := .tup [.agg [.int .i64 0, .int .i64 0, .str [], .str [], .int .i64 0, .int .i64 0, .int .i64 0, .str [], .nils, .nils, .int .i64 0], .int .i64 8]) (by rw [cParse_bad hb1 (by simp [hb2])]; kernel_rfl) (by kernel_rfl) (by kernel_rfl)
    · refine WO.sub 37 hb2 (by kernel_rfl) ?_
      refine WO.sub 38 hb2 (by kernel_rfl) ?_
      refine WO.fin (by kernel_rfl) ?_
      refine W.cond (!(beqBytes ((qF s).2.1) [])) (by kernel_rfl) (fun hb3 => ?_) (fun hb3 => ?_)
      · refine W.sub 43 hb3 (by kernel_rfl) ?_
        refine W.sub 44 hb3 (by kernel_rfl) ?_
        refine W.seq ?_
        refine W.region ?_
        refine WO.fin (by kernel_rfl) ?_
        refine W.ret ?_
        exact RetQ.k (v' := .tup [.agg [.int .i64 0, .int .i64 0, .str [], .str [], .int .i64 0, .int .i64 0, .int .i64 0, .str [], .nils, .nils, .int .i64 0], .int .i64 8]) (by rw [cParse_bad hb1 (by simp [hb2, hb3])]; kernel_rfl) (by kernel_rfl) (by kernel_rfl)
      · refine W.sub 43 hb3 (by kernel_rfl) ?_
        refine W.sub 44 hb3 (by kernel_rfl) ?_
        refine W.skip ?_
        refine W.seq ?_
        refine W.seq ?_
        refine W.region ?_
        refine WO.adv 1 (by kernel_rfl) ?_
        refine WO.callp (by kernel_rfl) (logsEventErr_c (n := m) (d := s.length + 2) (by have := len_ok hb1; omega) (cEv s) (cEv_sm (len_ok hb1)).1 (cEv_sm (len_ok hb1)).2 hK _) ?_
        refine WO.fin (by kernel_rfl) ?_
        refine W.seq ?_
        refine W.region ?_
        refine WO.fin (by kernel_rfl) ?_
        refine W.cond ((evErr (cEv s)) != 0) (by kernel_rfl) (fun hb4 => ?_) (fun hb4 => ?_)
        · refine W.sub 49 hb4 (by kernel_rfl) ?_
          refine W.seq ?_
          refine W.region ?_
          refine WO.fin (by kernel_rfl) ?_
          refine W.ret ?_
          exact RetQ.k (v' := .tup [.agg [.int .i64 0, .int .i64 0, .str [], .str [], .int .i64 0, .int .i64 0, .int .i64 0, .str [], .nils, .nils, .int .i64 0], .int .i64 (evErr (cEv s))]) (by rw [cParse_err hb1 (by simp [hb2, hb3]) hb4]; kernel_rfl) (by kernel_rfl) (by kernel_rfl)
        · refine W.sub 49 hb4 (by kernel_rfl) ?_
          refine W.skip ?_
          refine W.seq ?_
          refine W.region ?_
          refine WO.fin (by kernel_rfl) ?_
          refine W.ret ?_
          exact RetQ.kh (vs := [.agg (cEv s).elv, .int .i64 0]) (h' := (hpL [bk 0 37 true 1 [.int .i64 ((qA s).1), .int .i64 ((qB s).1), .str ((qD s).1), .str ((qE s).1), .int .i64 ((qF s).1.kind), .int .i64 ((qF s).1.n), .int .i64 ((qF s).1.e), .str ((qF s).1.s), (qF s).1.namesA, (qF s).1.itemsA, .int .i64 ((qC s).1)], bk 1 83 true (Nat.succ (Nat.succ (Nat.succ (Nat.succ (Nat.succ (Nat.succ (Nat.succ (Nat.succ 0)))))))) [.str ((qF s).2.1), .bool ((qF s).2.2)], bk 2 37 true 4 [.int .i64 ((qA s).1), .int .i64 ((qB s).1), .str ((qD s).1), .str ((qE s).1), .int .i64 ((qF s).1.kind), .int .i64 ((qF s).1.n), .int .i64 ((qF s).1.e), .str ((qF s).1.s), (qF s).1.namesA, (qF s).1.itemsA, .int .i64 ((qC s).1)]])) (v' := .tup [.agg (cEv s).elv, .int .i64 0]) (by kernel_rfl) (by rw [cParse_ok hb1 (by simp [hb2, hb3]) hb4]) (by kernel_rfl) (by kernel_rfl) (fr_ev (k := 60) (cEv s) 0)

end
end Go.Abs
