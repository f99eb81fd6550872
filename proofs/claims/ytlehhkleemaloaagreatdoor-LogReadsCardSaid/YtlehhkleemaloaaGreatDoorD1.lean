/- A part of the proofs of the laws of logs: see the last text of this claim. -/
import Derived.Test.YtlehhkleemaloaaGreatDoorB9
import Derived.Test.YtlehhkleemaloaaGreatDoorB5
import Derived.Test.YtlehhkleemaloaaGreatDoorB2
import Derived.Test.YtlehhkleemaloaaGreatDoorB3
namespace Go.Abs
noncomputable section
open Go Go.Proofs
variable {K : Nat}
theorem rns_suf {s : List UInt8} {st : RS} (hs : st.1 <:+ s) (i : Nat) : (itL (rName s.length) i ([], (rE s.length st).2)).2.1 <:+ s :=
  it_suf (B := rName s.length) (r := ([], (rE s.length st).2)) (fun _ h => rName_suf h s.length) (rE_suf (L := s.length) hs) i
theorem rvs_suf {s : List UInt8} {st : RS} {d : Nat} {deep : Int} (hs : st.1 <:+ s) (i : Nat) : (itL (rVal s.length d deep) i ([], (rG s.length st).2)).2.1 <:+ s :=
  it_suf (B := rVal s.length d deep) (r := ([], (rG s.length st).2)) (fun a h => rVal_suf d deep a h) (rG_suf (L := s.length) hs) i
/-- the reference's reader of values, up to a depth -/
def RValOk (K : Nat) (s : List UInt8) (d : Nat) : Prop := ∀ (n : Nat), d + 8 ≤ n → ∀ (deep x : Int), x = deep → 0 ≤ deep → ∀ (st : RS), st.1 <:+ s → st.1.length < d → ∀ (i g ver : Nat) (h : Heap), h.get i = some (bk g 90 true ver [.str s, .int .i64 ((atN s st : Nat) : Int), .bool st.2]) →
  (fns (Cg K) n).call 51 [.ptrO i 0, .int .i64 x] h none = some (.val (.agg (rVal s.length d deep st).1.six) (h.set i (bk g 90 true (Nat.succ ver) [.str s, .int .i64 ((atN s (rVal s.length d deep st).2 : Nat) : Int), .bool (rVal s.length d deep st).2.2])) none)
set_option maxHeartbeats 4000000 in
set_option maxRecDepth 20000 in
theorem rdVal2_step {s : List UInt8} {d : Nat} (hl : s.length ≤ 4000) (hK : big ≤ K) (ih : RValOk K s d) : RValOk K s (d + 1) := by
  intro n hn x deep he hdp st hs hd i g ver h hg
  subst he
  obtain ⟨m, rfl⟩ : ∃ m, n = m + 1 := ⟨n - 1, by omega⟩
  have hE2 : (rE s.length st).1 ≤ 4000 := by have h1 := (rCount_le s.length (rTake 44 (rD s.length st).2)).2; have h1 : (rE s.length st).1 ≤ ((s.length : Nat) : Int) := h1; omega
  have hG2 : (rG s.length st).1 ≤ 4000 := by have h1 := (rCount_le s.length (rTake 44 (rF s.length st).2)).2; have h1 : (rG s.length st).1 ≤ ((s.length : Nat) : Int) := h1; omega
  have hlK1 : (rE s.length st).1.toNat < (Cg K).loops := by rw [loops_eq]; unfold big at hK; omega
  have hlK2 : (rG s.length st).1.toNat < (Cg K).loops := by rw [loops_eq]; unfold big at hK; omega
  refine ownf_of (y := (.ptrO 0 0)) (C := Cg K) (F := fns (Cg K) m) (fn := Tryz.f51) (c := bodyOf Tryz.f51) (by kernel_rfl) (by kernel_rfl) (by kernel_rfl) hg (by kernel_rfl) (by kernel_rfl) (by kernel_rfl) (by kernel_rfl) (by kernel_rfl) (by kernel_rfl) ?_
  refine W.seq ?_
  refine W.region ?_
  refine WO.fin (by kernel_rfl) ?_
  refine W.seq ?_
  refine W.region ?_
  refine WO.fin (by kernel_rfl) ?_
  refine W.seq ?_
  refine W.seq ?_
  refine W.region ?_
  refine WO.adv 5 (by kernel_rfl) ?_
  refine splitB st.2 (fun hb1 => ?_) (fun hb1 => ?_)
  · refine WO.sub 11 hb1 (by kernel_rfl) ?_
    refine WO.sub 12 hb1 (by kernel_rfl) ?_
    refine WO.fin (by kernel_rfl) ?_
    refine W.cond true (by kernel_rfl) (fun _ => ?_) (fun h => by cases h)
    refine W.seq ?_
    refine W.region ?_
    refine WO.fin (by kernel_rfl) ?_
    refine W.seq ?_
    refine W.region ?_
    refine WO.fin (by kernel_rfl) ?_
    refine W.ret ?_
    exact RetF.kh (vs := [.agg [.int .i64 0, .int .i64 0, .int .i64 0, .str [], .nils, .nils]]) (h' := (hpL [bk 0 90 true 1 [.str s, .int .i64 ((atN s st : Nat) : Int), .bool true], bk 1 35 true 1 [.int .i64 0, .int .i64 0, .int .i64 0, .str [], .nils, .nils], bk 2 35 true 0 [.int .i64 0, .int .i64 0, .int .i64 0, .str [], .nils, .nils]])) (ver := 1) (cs' := [.str s, .int .i64 ((atN s st : Nat) : Int), .bool true]) (by kernel_rfl) (by rw [rVal_bad (by rw [hb1]; rfl)]; rfl) (by kernel_rfl) (by kernel_rfl) (by kernel_rfl) (by rw [rVal_bad (by rw [hb1]; rfl)]; rfl)
  · refine WO.sub 11 hb1 (by kernel_rfl) ?_
    refine WO.sub 12 hb1 (by kernel_rfl) ?_
    refine WO.fin (by kernel_rfl) ?_
    refine W.cond (decide (deep > 4000)) (by kernel_rfl) (fun hb2 => ?_) (fun hb2 => ?_)
    · refine W.sub 14 hb2 (by kernel_rfl) ?_
      refine W.sub 15 hb2 (by kernel_rfl) ?_
      refine W.seq ?_
      refine W.region ?_
      refine WO.fin (by kernel_rfl) ?_
      refine W.seq ?_
      refine W.region ?_
      refine WO.fin (by kernel_rfl) ?_
      refine W.ret ?_
      exact RetF.kh (vs := [.agg [.int .i64 0, .int .i64 0, .int .i64 0, .str [], .nils, .nils]]) (h' := (hpL [bk 0 90 true 1 [.str s, .int .i64 ((atN s st : Nat) : Int), .bool true], bk 1 35 true 1 [.int .i64 0, .int .i64 0, .int .i64 0, .str [], .nils, .nils], bk 2 35 true 0 [.int .i64 0, .int .i64 0, .int .i64 0, .str [], .nils, .nils]])) (ver := 1) (cs' := [.str s, .int .i64 ((atN s st : Nat) : Int), .bool true]) (by kernel_rfl) (by rw [rVal_bad (by rw [hb1, hb2]; rfl)]; rfl) (by kernel_rfl) (by kernel_rfl) (by kernel_rfl) (by rw [rVal_bad (by rw [hb1, hb2]; rfl)]; rfl)
    · refine W.sub 14 hb2 (by kernel_rfl) ?_
      refine W.sub 15 hb2 (by kernel_rfl) ?_
      refine W.skip ?_
      refine W.seq ?_
      refine W.region ?_
      refine WO.adv 1 (by kernel_rfl) ?_
      refine WO.callh (by kernel_rfl) rfl (rdTake_c (n := m) (by omega) s st 118 hl hs (i := 0) (g := 0) (ver := 0)  (by kernel_rfl)) ?_
      refine WO.nil ?_
      refine W.seq ?_
      refine W.region ?_
      refine WO.adv 1 (by kernel_rfl) ?_
      refine WO.callh (by kernel_rfl) rfl (rdNum_c (n := m) (by omega) s (rTake 118 st) hl hK (rTake_suf hs _) (i := 0) (g := 0) (ver := (Nat.succ 0))  (by kernel_rfl)) ?_
      refine WO.fin (by kernel_rfl) ?_
      refine W.seq ?_
      refine W.region ?_
      refine WO.adv 1 (by kernel_rfl) ?_
      refine WO.callh (by kernel_rfl) rfl (rdTake_c (n := m) (by omega) s (rA st).2 44 hl (rA_suf hs) (i := 0) (g := 0) (ver := (Nat.succ (Nat.succ 0)))  (by kernel_rfl)) ?_
      refine WO.nil ?_
      refine W.seq ?_
      refine W.region ?_
      refine WO.adv 1 (by kernel_rfl) ?_
      refine WO.callh (by kernel_rfl) rfl (rdNum_c (n := m) (by omega) s (rTake 44 (rA st).2) hl hK (rTake_suf (rA_suf hs) _) (i := 0) (g := 0) (ver := (Nat.succ (Nat.succ (Nat.succ 0))))  (by kernel_rfl)) ?_
      refine WO.fin (by kernel_rfl) ?_
      refine W.seq ?_
      refine W.region ?_
      refine WO.adv 1 (by kernel_rfl) ?_
      refine WO.callh (by kernel_rfl) rfl (rdTake_c (n := m) (by omega) s (rB st).2 44 hl (rB_suf hs) (i := 0) (g := 0) (ver := (Nat.succ (Nat.succ (Nat.succ (Nat.succ 0)))))  (by kernel_rfl)) ?_
      refine WO.nil ?_
      refine W.seq ?_
      refine W.region ?_
      refine WO.adv 1 (by kernel_rfl) ?_
      refine WO.callh (by kernel_rfl) rfl (rdNum_c (n := m) (by omega) s (rTake 44 (rB st).2) hl hK (rTake_suf (rB_suf hs) _) (i := 0) (g := 0) (ver := (Nat.succ (Nat.succ (Nat.succ (Nat.succ (Nat.succ 0))))))  (by kernel_rfl)) ?_
      refine WO.fin (by kernel_rfl) ?_
      refine W.seq ?_
      refine W.region ?_
      refine WO.adv 1 (by kernel_rfl) ?_
      refine WO.callh (by kernel_rfl) rfl (rdTake_c (n := m) (by omega) s (rC st).2 44 hl (rC_suf hs) (i := 0) (g := 0) (ver := (Nat.succ (Nat.succ (Nat.succ (Nat.succ (Nat.succ (Nat.succ 0)))))))  (by kernel_rfl)) ?_
      refine WO.nil ?_
      refine W.seq ?_
      refine W.region ?_
      refine WO.adv 1 (by kernel_rfl) ?_
      refine WO.callh (by kernel_rfl) rfl (rdText2_c (n := m) (by omega) s (rTake 44 (rC st).2) hl hK (rTake_suf (rC_suf hs) _) (i := 0) (g := 0) (ver := (Nat.succ (Nat.succ (Nat.succ (Nat.succ (Nat.succ (Nat.succ (Nat.succ 0))))))))  (by kernel_rfl)) ?_
      refine WO.fin (by kernel_rfl) ?_
      refine W.seq ?_
      refine W.region ?_
      refine WO.adv 1 (by kernel_rfl) ?_
      refine WO.callh (by kernel_rfl) rfl (rdTake_c (n := m) (by omega) s (rD s.length st).2 44 hl (rD_suf (L := s.length) hs) (i := 0) (g := 0) (ver := (Nat.succ (Nat.succ (Nat.succ (Nat.succ (Nat.succ (Nat.succ (Nat.succ (Nat.succ 0)))))))))  (by kernel_rfl)) ?_
      refine WO.nil ?_
      refine W.seq ?_
      refine W.seq ?_
      refine W.region ?_
      refine WO.adv 1 (by kernel_rfl) ?_
      refine WO.callh (by kernel_rfl) rfl (rdCount_c (n := m) (by omega) s (rTake 44 (rD s.length st).2) hl hK (rTake_suf (rD_suf (L := s.length) hs) _) (i := 0) (g := 0) (ver := (Nat.succ (Nat.succ (Nat.succ (Nat.succ (Nat.succ (Nat.succ (Nat.succ (Nat.succ (Nat.succ 0))))))))))  (by kernel_rfl)) ?_
      refine WO.fin (by kernel_rfl) ?_
      refine W.block ?_
      refine W.loopc (len := (rE s.length st).1.toNat) (fun i t => (S 91 ((some (.ptrO 0 0)) :: (some (.int .i64 deep)) :: none :: none :: (some (.ptrO 1 0)) :: (some (.ptrO 2 0)) :: (some (.int .i64 ((rE s.length st).1 - ((i : Nat) : Int)))) :: none :: (some (.ptrO 0 0)) :: (some (.ptrO 0 0)) :: (some (.ptrO 0 2)) :: (some (.bool false)) :: (some (.bool false)) :: (some (.int .i64 deep)) :: (some (.bool false)) :: (some (.bool false)) :: none :: none :: none :: none :: (some (.ptrO 0 0)) :: (some (.tup [])) :: (some (.ptrO 0 0)) :: (some (.int .i64 ((rA st).1))) :: (some (.ptrO 2 0)) :: (some (.ptrO 0 0)) :: (some (.tup [])) :: (some (.ptrO 0 0)) :: (some (.int .i64 ((rB st).1))) :: (some (.ptrO 2 1)) :: (some (.ptrO 0 0)) :: (some (.tup [])) :: (some (.ptrO 0 0)) :: (some (.int .i64 ((rC st).1))) :: (some (.ptrO 2 2)) :: (some (.ptrO 0 0)) :: (some (.tup [])) :: (some (.ptrO 0 0)) :: (some (.str ((rD s.length st).1))) :: (some (.ptrO 2 3)) :: (some (.ptrO 0 0)) :: (some (.tup [])) :: (some (.ptrO 0 0)) :: (some (.int .i64 ((rE s.length st).1))) :: (t.g 44) :: (t.g 45) :: (t.g 46) :: (t.g 47) :: (t.g 48) :: (t.g 49) :: (t.g 50) :: (t.g 51) :: (t.g 52) :: (t.g 53) :: (t.g 54) :: (t.g 55) :: (t.g 56) :: (t.g 57) :: (t.g 58) :: (t.g 59) :: (t.g 60) :: (t.g 61) :: (t.g 62) :: (t.g 63) :: none :: none :: none :: none :: none :: none :: none :: none :: none :: none :: none :: none :: none :: none :: none :: none :: none :: none :: none :: none :: none :: none :: none :: none :: none :: none :: none :: []) t.h)) (fun i t => (OwnT t.h (t.cv 2 4) (itL (rName s.length) i ([], (rE s.length st).2)).1 3 t.h.next ∧ ∀ j : Nat, j < i → (itL (rName s.length) j ([], (rE s.length st).2)).2.2 = false) ∧ (t.h.get 0 = some (bk 0 90 true (t.vr 0) [.str s, .int .i64 ((atN s ((itL (rName s.length) i ([], (rE s.length st).2)).2) : Nat) : Int), .bool (((itL (rName s.length) i ([], (rE s.length st).2)).2).2)])) ∧ (t.h.get 1 = some (bk 1 35 true (t.vr 1) [.int .i64 0, .int .i64 0, .int .i64 0, .str [], .nils, .nils])) ∧ (t.h.get 2 = some (bk 2 35 true (t.vr 2) [.int .i64 ((rA st).1), .int .i64 ((rB st).1), .int .i64 ((rC st).1), .str ((rD s.length st).1), (t.cv 2 4), .nils])) ∧ (3 ≤ t.h.next)) hlK1 ?_ ?_ ?_
      · refine Told.put 6 (show AV.int .i64 (rE s.length st).1 = AV.int .i64 ((rE s.length st).1 - ((0 : Nat) : Int)) from congrArg (AV.int .i64) (Int.sub_zero _).symm) (by kernel_rfl) ?_; exact Told.k (by kernel_rfl)
      · refine ⟨?_, hv_fact (h := (hpL [bk 0 90 true (Nat.succ (Nat.succ (Nat.succ (Nat.succ (Nat.succ (Nat.succ (Nat.succ (Nat.succ (Nat.succ (Nat.succ 0)))))))))) [.str s, .int .i64 ((atN s ((rE s.length st).2) : Nat) : Int), .bool (((rE s.length st).2).2)], bk 1 35 true 0 [.int .i64 0, .int .i64 0, .int .i64 0, .str [], .nils, .nils], bk 2 35 true 4 [.int .i64 ((rA st).1), .int .i64 ((rB st).1), .int .i64 ((rC st).1), .str ((rD s.length st).1), .nils, .nils]])) (ver := (Nat.succ (Nat.succ (Nat.succ (Nat.succ (Nat.succ (Nat.succ (Nat.succ (Nat.succ (Nat.succ (Nat.succ 0))))))))))) (cs := [.str s, .int .i64 ((atN s ((rE s.length st).2) : Nat) : Int), .bool (((rE s.length st).2).2)]) (by kernel_rfl) (by kernel_rfl) (by rfl), hv_fact (h := (hpL [bk 0 90 true (Nat.succ (Nat.succ (Nat.succ (Nat.succ (Nat.succ (Nat.succ (Nat.succ (Nat.succ (Nat.succ (Nat.succ 0)))))))))) [.str s, .int .i64 ((atN s ((rE s.length st).2) : Nat) : Int), .bool (((rE s.length st).2).2)], bk 1 35 true 0 [.int .i64 0, .int .i64 0, .int .i64 0, .str [], .nils, .nils], bk 2 35 true 4 [.int .i64 ((rA st).1), .int .i64 ((rB st).1), .int .i64 ((rC st).1), .str ((rD s.length st).1), .nils, .nils]])) (ver := 0) (cs := [.int .i64 0, .int .i64 0, .int .i64 0, .str [], .nils, .nils]) (by kernel_rfl) (by kernel_rfl) (by rfl), hv_fact (h := (hpL [bk 0 90 true (Nat.succ (Nat.succ (Nat.succ (Nat.succ (Nat.succ (Nat.succ (Nat.succ (Nat.succ (Nat.succ (Nat.succ 0)))))))))) [.str s, .int .i64 ((atN s ((rE s.length st).2) : Nat) : Int), .bool (((rE s.length st).2).2)], bk 1 35 true 0 [.int .i64 0, .int .i64 0, .int .i64 0, .str [], .nils, .nils], bk 2 35 true 4 [.int .i64 ((rA st).1), .int .i64 ((rB st).1), .int .i64 ((rC st).1), .str ((rD s.length st).1), .nils, .nils]])) (ver := 4) (cs := [.int .i64 ((rA st).1), .int .i64 ((rB st).1), .int .i64 ((rC st).1), .str ((rD s.length st).1), .nils, .nils]) (by kernel_rfl) (by kernel_rfl) (by exact six_cv4 (cv_of (h := (hpL [bk 0 90 true (Nat.succ (Nat.succ (Nat.succ (Nat.succ (Nat.succ (Nat.succ (Nat.succ (Nat.succ (Nat.succ (Nat.succ 0)))))))))) [.str s, .int .i64 ((atN s ((rE s.length st).2) : Nat) : Int), .bool (((rE s.length st).2).2)], bk 1 35 true 0 [.int .i64 0, .int .i64 0, .int .i64 0, .str [], .nils, .nils], bk 2 35 true 4 [.int .i64 ((rA st).1), .int .i64 ((rB st).1), .int .i64 ((rC st).1), .str ((rD s.length st).1), .nils, .nils]])) (b := bk 2 35 true 4 [.int .i64 ((rA st).1), .int .i64 ((rB st).1), .int .i64 ((rC st).1), .str ((rD s.length st).1), .nils, .nils]) (by kernel_rfl) (by kernel_rfl) rfl)), hv_next (h := (hpL [bk 0 90 true (Nat.succ (Nat.succ (Nat.succ (Nat.succ (Nat.succ (Nat.succ (Nat.succ (Nat.succ (Nat.succ (Nat.succ 0)))))))))) [.str s, .int .i64 ((atN s ((rE s.length st).2) : Nat) : Int), .bool (((rE s.length st).2).2)], bk 1 35 true 0 [.int .i64 0, .int .i64 0, .int .i64 0, .str [], .nils, .nils], bk 2 35 true 4 [.int .i64 ((rA st).1), .int .i64 ((rB st).1), .int .i64 ((rC st).1), .str ((rD s.length st).1), .nils, .nils]])) (by kernel_rfl) (by exact Nat.le_of_ble_eq_true (by kernel_rfl))⟩
        exact ⟨OwnT.at (h := (hpL [bk 0 90 true (Nat.succ (Nat.succ (Nat.succ (Nat.succ (Nat.succ (Nat.succ (Nat.succ (Nat.succ (Nat.succ (Nat.succ 0)))))))))) [.str s, .int .i64 ((atN s ((rE s.length st).2) : Nat) : Int), .bool (((rE s.length st).2).2)], bk 1 35 true 0 [.int .i64 0, .int .i64 0, .int .i64 0, .str [], .nils, .nils], bk 2 35 true 4 [.int .i64 ((rA st).1), .int .i64 ((rB st).1), .int .i64 ((rC st).1), .str ((rD s.length st).1), .nils, .nils]])) (x := .nils) (l := []) (b := bk 2 35 true 4 [.int .i64 ((rA st).1), .int .i64 ((rB st).1), .int .i64 ((rC st).1), .str ((rD s.length st).1), .nils, .nils]) (by kernel_rfl) (by kernel_rfl) rfl rfl (OwnR.nil _ _ _ (Nat.le_of_ble_eq_true (by kernel_rfl))), fun j hj => by omega⟩
      · rintro i3 t3 hi3 ⟨hI3, hg0_i3, hg1_i3, hg2_i3, hnx_i3⟩
        refine W.seq ?_
        refine W.seq ?_
        refine W.region ?_
        refine WO.adv 3 (by kernel_rfl) ?_
        refine splitB (decide (((rE s.length st).1 - ((i3 : Nat) : Int)) > 0)) (fun hb4 => ?_) (fun hb4 => ?_)
        · refine WO.sub 45 hb4 (by kernel_rfl) ?_
          refine WO.sub 46 hb4 (by kernel_rfl) ?_
          refine WO.adv 3 (by kernel_rfl) ?_
          refine WO.opk (y := keep t3.h (opLoad (Cg K) t3.h 4 (.ptrO 0 2))) (x := .bool (((itL (rName s.length) i3 ([], (rE s.length st).2)).2).2)) (h' := t3.h) (load_k hg0_i3 (by kernel_rfl)) (by kernel_rfl) ?_
          refine WO.fin (by kernel_rfl) ?_
          refine W.cond (!(((itL (rName s.length) i3 ([], (rE s.length st).2)).2).2)) (by kernel_rfl) (fun hb5 => ?_) (fun hb5 => ?_)
          · refine W.sub 51 hb5 (by kernel_rfl) ?_
            refine W.sub 52 hb5 (by kernel_rfl) ?_
            refine W.skip ?_
            refine W.seq ?_
            refine W.block ?_
            refine W.seq ?_
            refine W.region ?_
            refine WO.adv 1 (by kernel_rfl) ?_
            refine WO.callh (by kernel_rfl) (by kernel_rfl) (rdTake_c (n := m) (by omega) s ((itL (rName s.length) i3 ([], (rE s.length st).2)).2) 44 hl (rns_suf hs i3) (i := 0) (g := 0) (ver := (t3.vr 0)) (h := t3.h) hg0_i3) ?_
            refine WO.nil ?_
            refine W.drawn2 (by kernel_rfl) ?_
            refine WE.adv (j' := 1) 1 (by kernel_rfl) (by kernel_rfl) ?_
            refine WE.opr (y := keep (t3.h.set 0 (bk 0 90 true (Nat.succ (t3.vr 0)) [.str s, .int .i64 ((atN s (rTake 44 ((itL (rName s.length) i3 ([], (rE s.length st).2)).2)) : Nat) : Int), .bool ((rTake 44 ((itL (rName s.length) i3 ([], (rE s.length st).2)).2)).2)])) (opLoad (Cg K) (t3.h.set 0 (bk 0 90 true (Nat.succ (t3.vr 0)) [.str s, .int .i64 ((atN s (rTake 44 ((itL (rName s.length) i3 ([], (rE s.length st).2)).2)) : Nat) : Int), .bool ((rTake 44 ((itL (rName s.length) i3 ([], (rE s.length st).2)).2)).2)])) 29 (.ptrO 2 4))) (x := (t3.cv 2 4)) (id := 2) (by kernel_rfl) (load_k (gso (by omega) hg2_i3) (by kernel_rfl)) (by kernel_rfl) (by kernel_rfl) (by kernel_rfl) ?_
            refine WE.adv (j' := 3) 1 (by kernel_rfl) (by kernel_rfl) ?_
            refine WE.callh (by kernel_rfl) (by kernel_rfl) (by kernel_rfl) (rdText2_c (n := m) (by omega) s (rTake 44 ((itL (rName s.length) i3 ([], (rE s.length st).2)).2)) hl hK (rTake_suf (rns_suf hs i3) _) (i := 0) (g := 0) (ver := (Nat.succ (t3.vr 0))) (h := (t3.h.set 0 (bk 0 90 true (Nat.succ (t3.vr 0)) [.str s, .int .i64 ((atN s (rTake 44 ((itL (rName s.length) i3 ([], (rE s.length st).2)).2)) : Nat) : Int), .bool ((rTake 44 ((itL (rName s.length) i3 ([], (rE s.length st).2)).2)).2)]))) gss) ?_
            refine WE.opa (y := some (.slO t3.h.next 0 1 1 1 true, (((t3.h.set 0 (bk 0 90 true (Nat.succ (t3.vr 0)) [.str s, .int .i64 ((atN s (rTake 44 ((itL (rName s.length) i3 ([], (rE s.length st).2)).2)) : Nat) : Int), .bool ((rTake 44 ((itL (rName s.length) i3 ([], (rE s.length st).2)).2)).2)])).set 0 (bk 0 90 true (Nat.succ (Nat.succ (t3.vr 0))) [.str s, .int .i64 ((atN s ((rText s.length (rTake 44 ((itL (rName s.length) i3 ([], (rE s.length st).2)).2))).2) : Nat) : Int), .bool (((rText s.length (rTake 44 ((itL (rName s.length) i3 ([], (rE s.length st).2)).2))).2).2)])).new 9 true [.str ((rText s.length (rTake 44 ((itL (rName s.length) i3 ([], (rE s.length st).2)).2))).1)]))) rfl (by kernel_rfl) (by kernel_rfl) ?_
            obtain ⟨x6, h6, he6, hO6, hK6⟩ := append_t (K := K) (h := (((t3.h.set 0 (bk 0 90 true (Nat.succ (t3.vr 0)) [.str s, .int .i64 ((atN s (rTake 44 ((itL (rName s.length) i3 ([], (rE s.length st).2)).2)) : Nat) : Int), .bool ((rTake 44 ((itL (rName s.length) i3 ([], (rE s.length st).2)).2)).2)])).set 0 (bk 0 90 true (Nat.succ (Nat.succ (t3.vr 0))) [.str s, .int .i64 ((atN s ((rText s.length (rTake 44 ((itL (rName s.length) i3 ([], (rE s.length st).2)).2))).2) : Nat) : Int), .bool (((rText s.length (rTake 44 ((itL (rName s.length) i3 ([], (rE s.length st).2)).2))).2).2)])).new 9 true [.str ((rText s.length (rTake 44 ((itL (rName s.length) i3 ([], (rE s.length st).2)).2))).1)])) (v := (t3.cv 2 4)) (l := (itL (rName s.length) i3 ([], (rE s.length st).2)).1) (id := t3.h.next) (g := t3.h.next) (ver := 0) (s := ((rText s.length (rTake 44 ((itL (rName s.length) i3 ([], (rE s.length st).2)).2))).1)) (OwnR.new (OwnR.set (j := 0) (Or.inl (by omega)) (OwnR.set (j := 0) (Or.inl (by omega)) hI3.1))) (by have h1 : (itL (rName s.length) i3 ([], (rE s.length st).2)).1.length = 0 + i3 := it_cnt (B := (rName s.length)) _ i3; have h2 := hi3; omega) gnew
            have hn6 := hK6.1
            simp only [nnew, nset] at hn6
            refine WE.opm he6 (by kernel_rfl) (by kernel_rfl) ?_
            refine WE.adv (j' := 7) 1 (by kernel_rfl) (by kernel_rfl) ?_
            refine WE.opm (y := opStore (Cg K) h6 29 (.ptrO 2 4) (x6)) (x := .tup []) (h' := (h6.set 2 (bk 2 35 true (Nat.succ (t3.vr 2)) [.int .i64 ((rA st).1), .int .i64 ((rB st).1), .int .i64 ((rC st).1), .str ((rD s.length st).1), x6, .nils]))) (store_o (hK6.2 2 _ (gnewo (by first | omega | (simp only [nnew, nset]; omega)) (gso (by omega) (gso (by omega) hg2_i3))) (by first | omega | (simp only [nnew, nset]; omega)) (show 2 < 3 by omega)) (OwnR.plain hO6) (by kernel_rfl) (by kernel_rfl)) (by kernel_rfl) (by kernel_rfl) ?_
            refine WE.finm (id := 2) (jc := 3) (jm := 4) (n0 := t3.h.next) (B := bk 2 35 true (t3.vr 2) [.int .i64 ((rA st).1), .int .i64 ((rB st).1), .int .i64 ((rC st).1), .str ((rD s.length st).1), (t3.cv 2 4), .nils]) (h := (t3.h.set 0 (bk 0 90 true (Nat.succ (t3.vr 0)) [.str s, .int .i64 ((atN s (rTake 44 ((itL (rName s.length) i3 ([], (rE s.length st).2)).2)) : Nat) : Int), .bool ((rTake 44 ((itL (rName s.length) i3 ([], (rE s.length st).2)).2)).2)]))) (h' := ((t3.h.set 0 (bk 0 90 true (Nat.succ (t3.vr 0)) [.str s, .int .i64 ((atN s (rTake 44 ((itL (rName s.length) i3 ([], (rE s.length st).2)).2)) : Nat) : Int), .bool ((rTake 44 ((itL (rName s.length) i3 ([], (rE s.length st).2)).2)).2)])).set 0 (bk 0 90 true (Nat.succ (Nat.succ (t3.vr 0))) [.str s, .int .i64 ((atN s ((rText s.length (rTake 44 ((itL (rName s.length) i3 ([], (rE s.length st).2)).2))).2) : Nat) : Int), .bool (((rText s.length (rTake 44 ((itL (rName s.length) i3 ([], (rE s.length st).2)).2))).2).2)]))) (by kernel_rfl) (by kernel_rfl) (by kernel_rfl) (vblk_refl (OwnR.flat (h := (t3.h.set 0 (bk 0 90 true (Nat.succ (t3.vr 0)) [.str s, .int .i64 ((atN s (rTake 44 ((itL (rName s.length) i3 ([], (rE s.length st).2)).2)) : Nat) : Int), .bool ((rTake 44 ((itL (rName s.length) i3 ([], (rE s.length st).2)).2)).2)]))) (k := 63) (OwnR.set (j := 0) (Or.inl (by omega)) hI3.1)) rfl) (gso (by omega) hg2_i3) (gso (by omega) (gso (by omega) hg2_i3)) (by omega) ?_
            refine W.region ?_
            refine WO.fin (by kernel_rfl) ?_
            have hlt : i3 < (rE s.length st).1.toNat := (cnt_lt hb4)
            refine ⟨hlt, ⟨?_, hv_fact (h := (h6.set 2 (bk 2 35 true (Nat.succ (t3.vr 2)) [.int .i64 ((rA st).1), .int .i64 ((rB st).1), .int .i64 ((rC st).1), .str ((rD s.length st).1), x6, .nils]))) (ver := (Nat.succ (Nat.succ (t3.vr 0)))) (cs := [.str s, .int .i64 ((atN s ((rText s.length (rTake 44 ((itL (rName s.length) i3 ([], (rE s.length st).2)).2))).2) : Nat) : Int), .bool (((rText s.length (rTake 44 ((itL (rName s.length) i3 ([], (rE s.length st).2)).2))).2).2)]) (by kernel_rfl) (gso (by omega) (hK6.2 0 _ (gnewo (by first | omega | (simp only [nnew, nset]; omega)) gss) (by first | omega | (simp only [nnew, nset]; omega)) (show 0 < 3 by omega))) (by rw [itL_succ]; first | done | rfl), hv_fact (h := (h6.set 2 (bk 2 35 true (Nat.succ (t3.vr 2)) [.int .i64 ((rA st).1), .int .i64 ((rB st).1), .int .i64 ((rC st).1), .str ((rD s.length st).1), x6, .nils]))) (ver := (t3.vr 1)) (cs := [.int .i64 0, .int .i64 0, .int .i64 0, .str [], .nils, .nils]) (by kernel_rfl) (gso (by omega) (hK6.2 1 _ (gnewo (by first | omega | (simp only [nnew, nset]; omega)) (gso (by omega) (gso (by omega) hg1_i3))) (by first | omega | (simp only [nnew, nset]; omega)) (show 1 < 3 by omega))) (by rfl), hv_fact (h := (h6.set 2 (bk 2 35 true (Nat.succ (t3.vr 2)) [.int .i64 ((rA st).1), .int .i64 ((rB st).1), .int .i64 ((rC st).1), .str ((rD s.length st).1), x6, .nils]))) (ver := (Nat.succ (t3.vr 2))) (cs := [.int .i64 ((rA st).1), .int .i64 ((rB st).1), .int .i64 ((rC st).1), .str ((rD s.length st).1), x6, .nils]) (by kernel_rfl) gss (by exact six_cv4 (cv_of (h := (h6.set 2 (bk 2 35 true (Nat.succ (t3.vr 2)) [.int .i64 ((rA st).1), .int .i64 ((rB st).1), .int .i64 ((rC st).1), .str ((rD s.length st).1), x6, .nils]))) (b := bk 2 35 true (Nat.succ (t3.vr 2)) [.int .i64 ((rA st).1), .int .i64 ((rB st).1), .int .i64 ((rC st).1), .str ((rD s.length st).1), x6, .nils]) (by kernel_rfl) gss rfl)), hv_next (h := (h6.set 2 (bk 2 35 true (Nat.succ (t3.vr 2)) [.int .i64 ((rA st).1), .int .i64 ((rB st).1), .int .i64 ((rC st).1), .str ((rD s.length st).1), x6, .nils]))) (by kernel_rfl) (by first | omega | (simp only [nnew, nset]; omega))⟩, ?_⟩
            · exact ⟨OwnT.at (h := (h6.set 2 (bk 2 35 true (Nat.succ (t3.vr 2)) [.int .i64 ((rA st).1), .int .i64 ((rB st).1), .int .i64 ((rC st).1), .str ((rD s.length st).1), x6, .nils]))) (x := x6) (b := bk 2 35 true (Nat.succ (t3.vr 2)) [.int .i64 ((rA st).1), .int .i64 ((rB st).1), .int .i64 ((rC st).1), .str ((rD s.length st).1), x6, .nils]) (by kernel_rfl) gss rfl (by rw [itL_succ]; first | done | rfl) (OwnR.grow (OwnR.set (j := 2) (Or.inl (by omega)) hO6)), fun j hj => by rcases Nat.lt_succ_iff_lt_or_eq.1 hj with h | rfl; exact hI3.2 j h; exact (nb_t hb5)⟩
            · refine Told.put 6 (show AV.int .i64 (wrapF .i64 (((rE s.length st).1 - ((i3 : Nat) : Int)) - 1)) = AV.int .i64 ((rE s.length st).1 - (((i3 + 1) : Nat) : Int)) from congrArg (AV.int .i64) (cnt_next (rCount_le _ _).1 hE2 (by have := hi3; omega))) (by kernel_rfl) ?_
              exact Told.k (by kernel_rfl)
          · refine W.sub 51 hb5 (by kernel_rfl) ?_
            refine W.sub 52 hb5 (by kernel_rfl) ?_
            refine W.exit ?_
            have hF7 := rF_eq (L := s.length) (st := st) (i := i3) hi3 hI3.2 (.inr (nb_f hb5))
            have hz7 : t3.h.get 0 = some (bk 0 90 true (t3.vr 0) [.str s, .int .i64 ((atN s ((rF s.length st).2) : Nat) : Int), .bool (((rF s.length st).2).2)]) := by rw [← hF7]; exact hg0_i3
            have hy7 : OwnT t3.h (t3.cv 2 4) (rF s.length st).1 3 t3.h.next := by rw [← hF7]; exact hI3.1
            refine blockQ ?_
            refine W.seq ?_
            refine W.region ?_
            refine WO.adv 1 (by kernel_rfl) ?_
            refine WO.callh (by kernel_rfl) (by kernel_rfl) (rdTake_c (n := m) (by omega) s (rF s.length st).2 44 hl (rF_suf (L := s.length) hs) (i := 0) (g := 0) (ver := (t3.vr 0)) (h := t3.h) hz7) ?_
            refine WO.nil ?_
            refine W.seq ?_
            refine W.seq ?_
            refine W.region ?_
            refine WO.adv 1 (by kernel_rfl) ?_
            refine WO.callh (by kernel_rfl) (by kernel_rfl) (rdCount_c (n := m) (by omega) s (rTake 44 (rF s.length st).2) hl hK (rTake_suf (rF_suf (L := s.length) hs) _) (i := 0) (g := 0) (ver := (Nat.succ (t3.vr 0))) (h := (t3.h.set 0 (bk 0 90 true (Nat.succ (t3.vr 0)) [.str s, .int .i64 ((atN s (rTake 44 (rF s.length st).2) : Nat) : Int), .bool ((rTake 44 (rF s.length st).2).2)]))) gss) ?_
            refine WO.fin (by kernel_rfl) ?_
            refine W.block ?_
            refine W.loopc (len := (rG s.length st).1.toNat) (fun i t => (S 91 ((some (.ptrO 0 0)) :: (some (.int .i64 deep)) :: none :: none :: (some (.ptrO 1 0)) :: (some (.ptrO 2 0)) :: (some (.int .i64 ((rE s.length st).1 - ((i3 : Nat) : Int)))) :: (some (.int .i64 ((rG s.length st).1 - ((i : Nat) : Int)))) :: (some (.ptrO 0 0)) :: (some (.ptrO 0 0)) :: (some (.ptrO 0 2)) :: (some (.bool false)) :: (some (.bool false)) :: (some (.int .i64 deep)) :: (some (.bool false)) :: (some (.bool false)) :: none :: none :: none :: none :: (some (.ptrO 0 0)) :: (some (.tup [])) :: (some (.ptrO 0 0)) :: (some (.int .i64 ((rA st).1))) :: (some (.ptrO 2 0)) :: (some (.ptrO 0 0)) :: (some (.tup [])) :: (some (.ptrO 0 0)) :: (some (.int .i64 ((rB st).1))) :: (some (.ptrO 2 1)) :: (some (.ptrO 0 0)) :: (some (.tup [])) :: (some (.ptrO 0 0)) :: (some (.int .i64 ((rC st).1))) :: (some (.ptrO 2 2)) :: (some (.ptrO 0 0)) :: (some (.tup [])) :: (some (.ptrO 0 0)) :: (some (.str ((rD s.length st).1))) :: (some (.ptrO 2 3)) :: (some (.ptrO 0 0)) :: (some (.tup [])) :: (some (.ptrO 0 0)) :: (some (.int .i64 ((rE s.length st).1))) :: (some (.int .i64 ((rE s.length st).1 - ((i3 : Nat) : Int)))) :: (some (.bool true)) :: (some (.bool true)) :: (some (.ptrO 0 0)) :: (some (.ptrO 0 0)) :: (some (.ptrO 0 2)) :: (some (.bool (((itL (rName s.length) i3 ([], (rE s.length st).2)).2).2))) :: (some (.bool false)) :: (some (.bool false)) :: (t.g 53) :: (t.g 54) :: (t.g 55) :: (t.g 56) :: (t.g 57) :: (t.g 58) :: (t.g 59) :: (t.g 60) :: (t.g 61) :: (t.g 62) :: (t.g 63) :: (some (.ptrO 0 0)) :: (some (.tup [])) :: (some (.ptrO 0 0)) :: (some (.int .i64 ((rG s.length st).1))) :: (t.g 68) :: (t.g 69) :: (t.g 70) :: (t.g 71) :: (t.g 72) :: (t.g 73) :: (t.g 74) :: (t.g 75) :: (t.g 76) :: (t.g 77) :: (t.g 78) :: (t.g 79) :: (t.g 80) :: (t.g 81) :: (t.g 82) :: (t.g 83) :: (t.g 84) :: (t.g 85) :: (t.g 86) :: (t.g 87) :: none :: none :: none :: []) t.h)) (fun i t => (OwnV t.h (t.cv 2 5) (itL (rVal s.length d (deep + 1)) i ([], (rG s.length st).2)).1 t3.h.next t.h.next ∧ OwnT t.h (t3.cv 2 4) (rF s.length st).1 3 t3.h.next ∧ ∀ j : Nat, j < i → (itL (rVal s.length d (deep + 1)) j ([], (rG s.length st).2)).2.2 = false) ∧ (t.h.get 0 = some (bk 0 90 true (t.vr 0) [.str s, .int .i64 ((atN s ((itL (rVal s.length d (deep + 1)) i ([], (rG s.length st).2)).2) : Nat) : Int), .bool (((itL (rVal s.length d (deep + 1)) i ([], (rG s.length st).2)).2).2)])) ∧ (t.h.get 1 = some (bk 1 35 true (t.vr 1) [.int .i64 0, .int .i64 0, .int .i64 0, .str [], .nils, .nils])) ∧ (t.h.get 2 = some (bk 2 35 true (t.vr 2) [.int .i64 ((rA st).1), .int .i64 ((rB st).1), .int .i64 ((rC st).1), .str ((rD s.length st).1), (t3.cv 2 4), (t.cv 2 5)])) ∧ (3 ≤ t.h.next)) hlK2 ?_ ?_ ?_
            · refine Told.put 7 (show AV.int .i64 (rG s.length st).1 = AV.int .i64 ((rG s.length st).1 - ((0 : Nat) : Int)) from congrArg (AV.int .i64) (Int.sub_zero _).symm) (by kernel_rfl) ?_; exact Told.k (by kernel_rfl)
            · refine ⟨?_, hv_fact (h := ((t3.h.set 0 (bk 0 90 true (Nat.succ (t3.vr 0)) [.str s, .int .i64 ((atN s (rTake 44 (rF s.length st).2) : Nat) : Int), .bool ((rTake 44 (rF s.length st).2).2)])).set 0 (bk 0 90 true (Nat.succ (Nat.succ (t3.vr 0))) [.str s, .int .i64 ((atN s ((rG s.length st).2) : Nat) : Int), .bool (((rG s.length st).2).2)]))) (ver := (Nat.succ (Nat.succ (t3.vr 0)))) (cs := [.str s, .int .i64 ((atN s ((rG s.length st).2) : Nat) : Int), .bool (((rG s.length st).2).2)]) (by kernel_rfl) gss (by rfl), hv_fact (h := ((t3.h.set 0 (bk 0 90 true (Nat.succ (t3.vr 0)) [.str s, .int .i64 ((atN s (rTake 44 (rF s.length st).2) : Nat) : Int), .bool ((rTake 44 (rF s.length st).2).2)])).set 0 (bk 0 90 true (Nat.succ (Nat.succ (t3.vr 0))) [.str s, .int .i64 ((atN s ((rG s.length st).2) : Nat) : Int), .bool (((rG s.length st).2).2)]))) (ver := (t3.vr 1)) (cs := [.int .i64 0, .int .i64 0, .int .i64 0, .str [], .nils, .nils]) (by kernel_rfl) (gso (by omega) (gso (by omega) hg1_i3)) (by rfl), hv_fact (h := ((t3.h.set 0 (bk 0 90 true (Nat.succ (t3.vr 0)) [.str s, .int .i64 ((atN s (rTake 44 (rF s.length st).2) : Nat) : Int), .bool ((rTake 44 (rF s.length st).2).2)])).set 0 (bk 0 90 true (Nat.succ (Nat.succ (t3.vr 0))) [.str s, .int .i64 ((atN s ((rG s.length st).2) : Nat) : Int), .bool (((rG s.length st).2).2)]))) (ver := (t3.vr 2)) (cs := [.int .i64 ((rA st).1), .int .i64 ((rB st).1), .int .i64 ((rC st).1), .str ((rD s.length st).1), (t3.cv 2 4), .nils]) (by kernel_rfl) (gso (by omega) (gso (by omega) hg2_i3)) (by exact six_cv5 (cv_of (h := ((t3.h.set 0 (bk 0 90 true (Nat.succ (t3.vr 0)) [.str s, .int .i64 ((atN s (rTake 44 (rF s.length st).2) : Nat) : Int), .bool ((rTake 44 (rF s.length st).2).2)])).set 0 (bk 0 90 true (Nat.succ (Nat.succ (t3.vr 0))) [.str s, .int .i64 ((atN s ((rG s.length st).2) : Nat) : Int), .bool (((rG s.length st).2).2)]))) (b := bk 2 35 true (t3.vr 2) [.int .i64 ((rA st).1), .int .i64 ((rB st).1), .int .i64 ((rC st).1), .str ((rD s.length st).1), (t3.cv 2 4), .nils]) (by kernel_rfl) (gso (by omega) (gso (by omega) hg2_i3)) rfl)), hv_next (h := ((t3.h.set 0 (bk 0 90 true (Nat.succ (t3.vr 0)) [.str s, .int .i64 ((atN s (rTake 44 (rF s.length st).2) : Nat) : Int), .bool ((rTake 44 (rF s.length st).2).2)])).set 0 (bk 0 90 true (Nat.succ (Nat.succ (t3.vr 0))) [.str s, .int .i64 ((atN s ((rG s.length st).2) : Nat) : Int), .bool (((rG s.length st).2).2)]))) (by kernel_rfl) (by first | omega | (simp only [nnew, nset]; omega))⟩
              exact ⟨OwnV.at (h := ((t3.h.set 0 (bk 0 90 true (Nat.succ (t3.vr 0)) [.str s, .int .i64 ((atN s (rTake 44 (rF s.length st).2) : Nat) : Int), .bool ((rTake 44 (rF s.length st).2).2)])).set 0 (bk 0 90 true (Nat.succ (Nat.succ (t3.vr 0))) [.str s, .int .i64 ((atN s ((rG s.length st).2) : Nat) : Int), .bool (((rG s.length st).2).2)]))) (x := .nils) (l := []) (b := bk 2 35 true (t3.vr 2) [.int .i64 ((rA st).1), .int .i64 ((rB st).1), .int .i64 ((rC st).1), .str ((rD s.length st).1), (t3.cv 2 4), .nils]) (by kernel_rfl) (gso (by omega) (gso (by omega) hg2_i3)) rfl rfl (OwnR.nil _ _ _ (Nat.le_refl _)), OwnT.in (h := ((t3.h.set 0 (bk 0 90 true (Nat.succ (t3.vr 0)) [.str s, .int .i64 ((atN s (rTake 44 (rF s.length st).2) : Nat) : Int), .bool ((rTake 44 (rF s.length st).2).2)])).set 0 (bk 0 90 true (Nat.succ (Nat.succ (t3.vr 0))) [.str s, .int .i64 ((atN s ((rG s.length st).2) : Nat) : Int), .bool (((rG s.length st).2).2)]))) (by kernel_rfl) (OwnR.set (j := 0) (Or.inl (by omega)) (OwnR.set (j := 0) (Or.inl (by omega)) hy7)), fun j hj => by omega⟩
            · rintro i8 t8 hi8 ⟨hI8, hg0_i8, hg1_i8, hg2_i8, hnx_i8⟩
              refine W.seq ?_
              refine W.seq ?_
              refine W.region ?_
              refine WO.adv 3 (by kernel_rfl) ?_
              refine splitB (decide (((rG s.length st).1 - ((i8 : Nat) : Int)) > 0)) (fun hb9 => ?_) (fun hb9 => ?_)
              · refine WO.sub 69 hb9 (by kernel_rfl) ?_
                refine WO.sub 70 hb9 (by kernel_rfl) ?_
                refine WO.adv 3 (by kernel_rfl) ?_
                refine WO.opk (y := keep t8.h (opLoad (Cg K) t8.h 4 (.ptrO 0 2))) (x := .bool (((itL (rVal s.length d (deep + 1)) i8 ([], (rG s.length st).2)).2).2)) (h' := t8.h) (load_k hg0_i8 (by kernel_rfl)) (by kernel_rfl) ?_
                refine WO.fin (by kernel_rfl) ?_
                refine W.cond (!(((itL (rVal s.length d (deep + 1)) i8 ([], (rG s.length st).2)).2).2)) (by kernel_rfl) (fun hb10 => ?_) (fun hb10 => ?_)
                · refine W.sub 75 hb10 (by kernel_rfl) ?_
                  refine W.sub 76 hb10 (by kernel_rfl) ?_
                  refine W.skip ?_
                  refine W.seq ?_
                  refine W.block ?_
                  refine W.drawn2 (by kernel_rfl) ?_
                  refine WE.adv (j' := 1) 1 (by kernel_rfl) (by kernel_rfl) ?_
                  refine WE.opr (y := keep t8.h (opLoad (Cg K) t8.h 33 (.ptrO 2 5))) (x := (t8.cv 2 5)) (id := 2) (by kernel_rfl) (load_k hg2_i8 (by kernel_rfl)) (by kernel_rfl) (by kernel_rfl) (by kernel_rfl) ?_
                  refine WE.adv (j' := 5) 3 (by kernel_rfl) (by kernel_rfl) ?_
                  refine WE.callh (by kernel_rfl) (by kernel_rfl) (by kernel_rfl) (ih m (by omega) (deep + 1) (wrapF .i64 (deep + 1)) (deep_next hdp hb2) (by omega) ((itL (rVal s.length d (deep + 1)) i8 ([], (rG s.length st).2)).2) (rvs_suf hs i8) (ritem_less hd (fun a => rVal_len d (deep + 1) a) hI8.2.2 (nb_t hb10)) 0 0 (t8.vr 0) t8.h hg0_i8) ?_
                  refine WE.opa (y := some (.slO t8.h.next 0 6 1 1 true, ((t8.h.set 0 (bk 0 90 true (Nat.succ (t8.vr 0)) [.str s, .int .i64 ((atN s ((rVal s.length d (deep + 1) ((itL (rVal s.length d (deep + 1)) i8 ([], (rG s.length st).2)).2)).2) : Nat) : Int), .bool (((rVal s.length d (deep + 1) ((itL (rVal s.length d (deep + 1)) i8 ([], (rG s.length st).2)).2)).2).2)])).new 35 true ((rVal s.length d (deep + 1) ((itL (rVal s.length d (deep + 1)) i8 ([], (rG s.length st).2)).2)).1.six)))) rfl (by kernel_rfl) (by kernel_rfl) ?_
                  obtain ⟨x11, h11, he11, hO11, hK11⟩ := append_v (K := K) (h := ((t8.h.set 0 (bk 0 90 true (Nat.succ (t8.vr 0)) [.str s, .int .i64 ((atN s ((rVal s.length d (deep + 1) ((itL (rVal s.length d (deep + 1)) i8 ([], (rG s.length st).2)).2)).2) : Nat) : Int), .bool (((rVal s.length d (deep + 1) ((itL (rVal s.length d (deep + 1)) i8 ([], (rG s.length st).2)).2)).2).2)])).new 35 true ((rVal s.length d (deep + 1) ((itL (rVal s.length d (deep + 1)) i8 ([], (rG s.length st).2)).2)).1.six))) (v := (t8.cv 2 5)) (l := (itL (rVal s.length d (deep + 1)) i8 ([], (rG s.length st).2)).1) (id := t8.h.next) (g := t8.h.next) (ver := 0) (x := (rVal s.length d (deep + 1) ((itL (rVal s.length d (deep + 1)) i8 ([], (rG s.length st).2)).2)).1) (OwnR.new (OwnR.set (j := 0) (Or.inl (by omega)) hI8.1)) (by have h1 : (itL (rVal s.length d (deep + 1)) i8 ([], (rG s.length st).2)).1.length = 0 + i8 := it_cnt (B := (rVal s.length d (deep + 1))) _ i8; have h2 := hi8; omega) gnew
                  have hn11 := hK11.1
                  simp only [nnew, nset] at hn11
                  refine WE.opm he11 (by kernel_rfl) (by kernel_rfl) ?_
                  refine WE.adv (j' := 9) 1 (by kernel_rfl) (by kernel_rfl) ?_
                  refine WE.opm (y := opStore (Cg K) h11 33 (.ptrO 2 5) (x11)) (x := .tup []) (h' := (h11.set 2 (bk 2 35 true (Nat.succ (t8.vr 2)) [.int .i64 ((rA st).1), .int .i64 ((rB st).1), .int .i64 ((rC st).1), .str ((rD s.length st).1), (t3.cv 2 4), x11]))) (store_o (hK11.2 2 _ (gnewo (by first | omega | (simp only [nnew, nset]; omega)) (gso (by omega) hg2_i8)) (by first | omega | (simp only [nnew, nset]; omega)) (show 2 < t3.h.next by omega)) (OwnR.plain hO11) (by kernel_rfl) (by kernel_rfl)) (by kernel_rfl) (by kernel_rfl) ?_
                  refine WE.finm (id := 2) (jc := 5) (jm := 6) (n0 := t8.h.next) (B := bk 2 35 true (t8.vr 2) [.int .i64 ((rA st).1), .int .i64 ((rB st).1), .int .i64 ((rC st).1), .str ((rD s.length st).1), (t3.cv 2 4), (t8.cv 2 5)]) (h := t8.h) (h' := (t8.h.set 0 (bk 0 90 true (Nat.succ (t8.vr 0)) [.str s, .int .i64 ((atN s ((rVal s.length d (deep + 1) ((itL (rVal s.length d (deep + 1)) i8 ([], (rG s.length st).2)).2)).2) : Nat) : Int), .bool (((rVal s.length d (deep + 1) ((itL (rVal s.length d (deep + 1)) i8 ([], (rG s.length st).2)).2)).2).2)]))) (by kernel_rfl) (by kernel_rfl) (by kernel_rfl) (vblk_refl (OwnR.flat (h := t8.h) (k := 63) hI8.2.1) (OwnR.flat (h := t8.h) (k := 63) hI8.1)) hg2_i8 (gso (by omega) hg2_i8) (by omega) ?_
                  refine W.region ?_
                  refine WO.fin (by kernel_rfl) ?_
                  have hlt : i8 < (rG s.length st).1.toNat := (cnt_lt hb9)
                  refine ⟨hlt, ⟨?_, hv_fact (h := (h11.set 2 (bk 2 35 true (Nat.succ (t8.vr 2)) [.int .i64 ((rA st).1), .int .i64 ((rB st).1), .int .i64 ((rC st).1), .str ((rD s.length st).1), (t3.cv 2 4), x11]))) (ver := (Nat.succ (t8.vr 0))) (cs := [.str s, .int .i64 ((atN s ((rVal s.length d (deep + 1) ((itL (rVal s.length d (deep + 1)) i8 ([], (rG s.length st).2)).2)).2) : Nat) : Int), .bool (((rVal s.length d (deep + 1) ((itL (rVal s.length d (deep + 1)) i8 ([], (rG s.length st).2)).2)).2).2)]) (by kernel_rfl) (gso (by omega) (hK11.2 0 _ (gnewo (by first | omega | (simp only [nnew, nset]; omega)) gss) (by first | omega | (simp only [nnew, nset]; omega)) (show 0 < t3.h.next by omega))) (by rw [itL_succ]; first | done | rfl), hv_fact (h := (h11.set 2 (bk 2 35 true (Nat.succ (t8.vr 2)) [.int .i64 ((rA st).1), .int .i64 ((rB st).1), .int .i64 ((rC st).1), .str ((rD s.length st).1), (t3.cv 2 4), x11]))) (ver := (t8.vr 1)) (cs := [.int .i64 0, .int .i64 0, .int .i64 0, .str [], .nils, .nils]) (by kernel_rfl) (gso (by omega) (hK11.2 1 _ (gnewo (by first | omega | (simp only [nnew, nset]; omega)) (gso (by omega) hg1_i8)) (by first | omega | (simp only [nnew, nset]; omega)) (show 1 < t3.h.next by omega))) (by rfl), hv_fact (h := (h11.set 2 (bk 2 35 true (Nat.succ (t8.vr 2)) [.int .i64 ((rA st).1), .int .i64 ((rB st).1), .int .i64 ((rC st).1), .str ((rD s.length st).1), (t3.cv 2 4), x11]))) (ver := (Nat.succ (t8.vr 2))) (cs := [.int .i64 ((rA st).1), .int .i64 ((rB st).1), .int .i64 ((rC st).1), .str ((rD s.length st).1), (t3.cv 2 4), x11]) (by kernel_rfl) gss (by exact six_cv5 (cv_of (h := (h11.set 2 (bk 2 35 true (Nat.succ (t8.vr 2)) [.int .i64 ((rA st).1), .int .i64 ((rB st).1), .int .i64 ((rC st).1), .str ((rD s.length st).1), (t3.cv 2 4), x11]))) (b := bk 2 35 true (Nat.succ (t8.vr 2)) [.int .i64 ((rA st).1), .int .i64 ((rB st).1), .int .i64 ((rC st).1), .str ((rD s.length st).1), (t3.cv 2 4), x11]) (by kernel_rfl) gss rfl)), hv_next (h := (h11.set 2 (bk 2 35 true (Nat.succ (t8.vr 2)) [.int .i64 ((rA st).1), .int .i64 ((rB st).1), .int .i64 ((rC st).1), .str ((rD s.length st).1), (t3.cv 2 4), x11]))) (by kernel_rfl) (by first | omega | (simp only [nnew, nset]; omega))⟩, ?_⟩
                  · exact ⟨OwnV.at (h := (h11.set 2 (bk 2 35 true (Nat.succ (t8.vr 2)) [.int .i64 ((rA st).1), .int .i64 ((rB st).1), .int .i64 ((rC st).1), .str ((rD s.length st).1), (t3.cv 2 4), x11]))) (x := x11) (b := bk 2 35 true (Nat.succ (t8.vr 2)) [.int .i64 ((rA st).1), .int .i64 ((rB st).1), .int .i64 ((rC st).1), .str ((rD s.length st).1), (t3.cv 2 4), x11]) (by kernel_rfl) gss rfl (by rw [itL_succ]; first | done | rfl) (OwnR.grow (OwnR.set (j := 2) (Or.inl (by omega)) hO11)), OwnT.in (h := (h11.set 2 (bk 2 35 true (Nat.succ (t8.vr 2)) [.int .i64 ((rA st).1), .int .i64 ((rB st).1), .int .i64 ((rC st).1), .str ((rD s.length st).1), (t3.cv 2 4), x11]))) (by kernel_rfl) (OwnR.set (j := 2) (Or.inl (by omega)) (OwnR.keep hK11 (Nat.le_refl _) (OwnR.new (OwnR.set (j := 0) (Or.inl (by omega)) hI8.2.1)))), fun j hj => by rcases Nat.lt_succ_iff_lt_or_eq.1 hj with h | rfl; exact hI8.2.2 j h; exact (nb_t hb10)⟩
                  · refine Told.put 7 (show AV.int .i64 (wrapF .i64 (((rG s.length st).1 - ((i8 : Nat) : Int)) - 1)) = AV.int .i64 ((rG s.length st).1 - (((i8 + 1) : Nat) : Int)) from congrArg (AV.int .i64) (cnt_next (rCount_le _ _).1 hG2 (by have := hi8; omega))) (by kernel_rfl) ?_
                    exact Told.k (by kernel_rfl)
                · refine W.sub 75 hb10 (by kernel_rfl) ?_
                  refine W.sub 76 hb10 (by kernel_rfl) ?_
                  refine W.exit ?_
                  have hF12 := rH_eq (L := s.length) (st := st) (i := i8) hi8 hI8.2.2 (.inr (nb_f hb10))
                  have hz12 : t8.h.get 0 = some (bk 0 90 true (t8.vr 0) [.str s, .int .i64 ((atN s ((rH s.length (rVal s.length d (deep + 1)) st).2) : Nat) : Int), .bool (((rH s.length (rVal s.length d (deep + 1)) st).2).2)]) := by rw [← hF12]; exact hg0_i8
                  have hy12 : OwnV t8.h (t8.cv 2 5) (rH s.length (rVal s.length d (deep + 1)) st).1 t3.h.next t8.h.next := by rw [← hF12]; exact hI8.1
                  refine blockQ ?_
                  refine W.seq ?_
                  refine W.region ?_
                  refine WO.adv 1 (by kernel_rfl) ?_
                  refine WO.callh (by kernel_rfl) (by kernel_rfl) (rdTake_c (n := m) (by omega) s (rH s.length (rVal s.length d (deep + 1)) st).2 59 hl (rH_suf (L := s.length) hs) (i := 0) (g := 0) (ver := (t8.vr 0)) (h := t8.h) hz12) ?_
                  refine WO.nil ?_
                  refine W.seq ?_
                  refine W.region ?_
                  refine WO.opk (y := keep (t8.h.set 0 (bk 0 90 true (Nat.succ (t8.vr 0)) [.str s, .int .i64 ((atN s (rI s.length (rVal s.length d (deep + 1)) st) : Nat) : Int), .bool ((rI s.length (rVal s.length d (deep + 1)) st).2)])) (opLoad (Cg K) (t8.h.set 0 (bk 0 90 true (Nat.succ (t8.vr 0)) [.str s, .int .i64 ((atN s (rI s.length (rVal s.length d (deep + 1)) st) : Nat) : Int), .bool ((rI s.length (rVal s.length d (deep + 1)) st).2)])) 35 (.ptrO 2 0))) (x := .agg [.int .i64 ((rA st).1), .int .i64 ((rB st).1), .int .i64 ((rC st).1), .str ((rD s.length st).1), (t3.cv 2 4), (t8.cv 2 5)]) (h' := (t8.h.set 0 (bk 0 90 true (Nat.succ (t8.vr 0)) [.str s, .int .i64 ((atN s (rI s.length (rVal s.length d (deep + 1)) st) : Nat) : Int), .bool ((rI s.length (rVal s.length d (deep + 1)) st).2)]))) (load_k (gso (by omega) hg2_i8) (by kernel_rfl)) (by kernel_rfl) ?_
                  refine WO.opk (y := opStore (Cg K) (t8.h.set 0 (bk 0 90 true (Nat.succ (t8.vr 0)) [.str s, .int .i64 ((atN s (rI s.length (rVal s.length d (deep + 1)) st) : Nat) : Int), .bool ((rI s.length (rVal s.length d (deep + 1)) st).2)])) 35 (.ptrO 1 0) (.agg [.int .i64 ((rA st).1), .int .i64 ((rB st).1), .int .i64 ((rC st).1), .str ((rD s.length st).1), (t3.cv 2 4), (t8.cv 2 5)])) (x := .tup []) (h' := ((t8.h.set 0 (bk 0 90 true (Nat.succ (t8.vr 0)) [.str s, .int .i64 ((atN s (rI s.length (rVal s.length d (deep + 1)) st) : Nat) : Int), .bool ((rI s.length (rVal s.length d (deep + 1)) st).2)])).set 1 (bk 1 35 true (Nat.succ (t8.vr 1)) [.int .i64 ((rA st).1), .int .i64 ((rB st).1), .int .i64 ((rC st).1), .str ((rD s.length st).1), (t3.cv 2 4), (t8.cv 2 5)]))) (store_k (gso (by omega) hg1_i8) (by kernel_rfl) (by kernel_rfl)) (by kernel_rfl) ?_
                  refine WO.nil ?_
                  refine W.ret ?_
                  exact RetF.kh (vs := [.agg [.int .i64 ((rA st).1), .int .i64 ((rB st).1), .int .i64 ((rC st).1), .str ((rD s.length st).1), (t3.cv 2 4), (t8.cv 2 5)]]) (h' := ((t8.h.set 0 (bk 0 90 true (Nat.succ (t8.vr 0)) [.str s, .int .i64 ((atN s (rI s.length (rVal s.length d (deep + 1)) st) : Nat) : Int), .bool ((rI s.length (rVal s.length d (deep + 1)) st).2)])).set 1 (bk 1 35 true (Nat.succ (t8.vr 1)) [.int .i64 ((rA st).1), .int .i64 ((rB st).1), .int .i64 ((rC st).1), .str ((rD s.length st).1), (t3.cv 2 4), (t8.cv 2 5)]))) (ver := (Nat.succ (t8.vr 0))) (cs' := [.str s, .int .i64 ((atN s (rI s.length (rVal s.length d (deep + 1)) st) : Nat) : Int), .bool ((rI s.length (rVal s.length d (deep + 1)) st).2)]) (by kernel_rfl) (by rw [rVal_go (by rw [hb1, hb2]; rfl)]) (by kernel_rfl) (res_cell (p := .ptrO 1 0) (by kernel_rfl) (load_k gss (by kernel_rfl))) (gso (by omega) gss) (by rw [rVal_go (by rw [hb1, hb2]; rfl)]; exact fr_six (k := 60) (OwnR.set (j := 0) (Or.inl (by omega)) (OwnR.set (j := 1) (Or.inl (by omega)) (OwnR.set (j := 0) (Or.inl (by omega)) hI8.2.1))) (OwnR.set (j := 0) (Or.inl (by omega)) (OwnR.set (j := 1) (Or.inl (by omega)) (OwnR.set (j := 0) (Or.inl (by omega)) hy12))))
              · refine WO.sub 69 hb9 (by kernel_rfl) ?_
                refine WO.sub 70 hb9 (by kernel_rfl) ?_
                refine WO.fin (by kernel_rfl) ?_
                refine W.cond false (by kernel_rfl) (fun h => by cases h) (fun _ => ?_)
                refine W.exit ?_
                have hF13 := rH_eq (L := s.length) (st := st) (i := i8) hi8 hI8.2.2 (.inl (cnt_end hb9))
                have hz13 : t8.h.get 0 = some (bk 0 90 true (t8.vr 0) [.str s, .int .i64 ((atN s ((rH s.length (rVal s.length d (deep + 1)) st).2) : Nat) : Int), .bool (((rH s.length (rVal s.length d (deep + 1)) st).2).2)]) := by rw [← hF13]; exact hg0_i8
                have hy13 : OwnV t8.h (t8.cv 2 5) (rH s.length (rVal s.length d (deep + 1)) st).1 t3.h.next t8.h.next := by rw [← hF13]; exact hI8.1
                refine blockQ ?_
                refine W.seq ?_
                refine W.region ?_
                refine WO.adv 1 (by kernel_rfl) ?_
                refine WO.callh (by kernel_rfl) (by kernel_rfl) (rdTake_c (n := m) (by omega) s (rH s.length (rVal s.length d (deep + 1)) st).2 59 hl (rH_suf (L := s.length) hs) (i := 0) (g := 0) (ver := (t8.vr 0)) (h := t8.h) hz13) ?_
                refine WO.nil ?_
                refine W.seq ?_
                refine W.region ?_
                refine WO.opk (y := keep (t8.h.set 0 (bk 0 90 true (Nat.succ (t8.vr 0)) [.str s, .int .i64 ((atN s (rI s.length (rVal s.length d (deep + 1)) st) : Nat) : Int), .bool ((rI s.length (rVal s.length d (deep + 1)) st).2)])) (opLoad (Cg K) (t8.h.set 0 (bk 0 90 true (Nat.succ (t8.vr 0)) [.str s, .int .i64 ((atN s (rI s.length (rVal s.length d (deep + 1)) st) : Nat) : Int), .bool ((rI s.length (rVal s.length d (deep + 1)) st).2)])) 35 (.ptrO 2 0))) (x := .agg [.int .i64 ((rA st).1), .int .i64 ((rB st).1), .int .i64 ((rC st).1), .str ((rD s.length st).1), (t3.cv 2 4), (t8.cv 2 5)]) (h' := (t8.h.set 0 (bk 0 90 true (Nat.succ (t8.vr 0)) [.str s, .int .i64 ((atN s (rI s.length (rVal s.length d (deep + 1)) st) : Nat) : Int), .bool ((rI s.length (rVal s.length d (deep + 1)) st).2)]))) (load_k (gso (by omega) hg2_i8) (by kernel_rfl)) (by kernel_rfl) ?_
                refine WO.opk (y := opStore (Cg K) (t8.h.set 0 (bk 0 90 true (Nat.succ (t8.vr 0)) [.str s, .int .i64 ((atN s (rI s.length (rVal s.length d (deep + 1)) st) : Nat) : Int), .bool ((rI s.length (rVal s.length d (deep + 1)) st).2)])) 35 (.ptrO 1 0) (.agg [.int .i64 ((rA st).1), .int .i64 ((rB st).1), .int .i64 ((rC st).1), .str ((rD s.length st).1), (t3.cv 2 4), (t8.cv 2 5)])) (x := .tup []) (h' := ((t8.h.set 0 (bk 0 90 true (Nat.succ (t8.vr 0)) [.str s, .int .i64 ((atN s (rI s.length (rVal s.length d (deep + 1)) st) : Nat) : Int), .bool ((rI s.length (rVal s.length d (deep + 1)) st).2)])).set 1 (bk 1 35 true (Nat.succ (t8.vr 1)) [.int .i64 ((rA st).1), .int .i64 ((rB st).1), .int .i64 ((rC st).1), .str ((rD s.length st).1), (t3.cv 2 4), (t8.cv 2 5)]))) (store_k (gso (by omega) hg1_i8) (by kernel_rfl) (by kernel_rfl)) (by kernel_rfl) ?_
                refine WO.nil ?_
                refine W.ret ?_
                exact RetF.kh (vs := [.agg [.int .i64 ((rA st).1), .int .i64 ((rB st).1), .int .i64 ((rC st).1), .str ((rD s.length st).1), (t3.cv 2 4), (t8.cv 2 5)]]) (h' := ((t8.h.set 0 (bk 0 90 true (Nat.succ (t8.vr 0)) [.str s, .int .i64 ((atN s (rI s.length (rVal s.length d (deep + 1)) st) : Nat) : Int), .bool ((rI s.length (rVal s.length d (deep + 1)) st).2)])).set 1 (bk 1 35 true (Nat.succ (t8.vr 1)) [.int .i64 ((rA st).1), .int .i64 ((rB st).1), .int .i64 ((rC st).1), .str ((rD s.length st).1), (t3.cv 2 4), (t8.cv 2 5)]))) (ver := (Nat.succ (t8.vr 0))) (cs' := [.str s, .int .i64 ((atN s (rI s.length (rVal s.length d (deep + 1)) st) : Nat) : Int), .bool ((rI s.length (rVal s.length d (deep + 1)) st).2)]) (by kernel_rfl) (by rw [rVal_go (by rw [hb1, hb2]; rfl)]) (by kernel_rfl) (res_cell (p := .ptrO 1 0) (by kernel_rfl) (load_k gss (by kernel_rfl))) (gso (by omega) gss) (by rw [rVal_go (by rw [hb1, hb2]; rfl)]; exact fr_six (k := 60) (OwnR.set (j := 0) (Or.inl (by omega)) (OwnR.set (j := 1) (Or.inl (by omega)) (OwnR.set (j := 0) (Or.inl (by omega)) hI8.2.1))) (OwnR.set (j := 0) (Or.inl (by omega)) (OwnR.set (j := 1) (Or.inl (by omega)) (OwnR.set (j := 0) (Or.inl (by omega)) hy13))))
        · refine WO.sub 45 hb4 (by kernel_rfl) ?_
          refine WO.sub 46 hb4 (by kernel_rfl) ?_
          refine WO.fin (by kernel_rfl) ?_
          refine W.cond false (by kernel_rfl) (fun h => by cases h) (fun _ => ?_)
          refine W.exit ?_
          have hF14 := rF_eq (L := s.length) (st := st) (i := i3) hi3 hI3.2 (.inl (cnt_end hb4))
          have hz14 : t3.h.get 0 = some (bk 0 90 true (t3.vr 0) [.str s, .int .i64 ((atN s ((rF s.length st).2) : Nat) : Int), .bool (((rF s.length st).2).2)]) := by rw [← hF14]; exact hg0_i3
          have hy14 : OwnT t3.h (t3.cv 2 4) (rF s.length st).1 3 t3.h.next := by rw [← hF14]; exact hI3.1
          refine blockQ ?_
          refine W.seq ?_
          refine W.region ?_
          refine WO.adv 1 (by kernel_rfl) ?_
          refine WO.callh (by kernel_rfl) (by kernel_rfl) (rdTake_c (n := m) (by omega) s (rF s.length st).2 44 hl (rF_suf (L := s.length) hs) (i := 0) (g := 0) (ver := (t3.vr 0)) (h := t3.h) hz14) ?_
          refine WO.nil ?_
          refine W.seq ?_
          refine W.seq ?_
          refine W.region ?_
          refine WO.adv 1 (by kernel_rfl) ?_
          refine WO.callh (by kernel_rfl) (by kernel_rfl) (rdCount_c (n := m) (by omega) s (rTake 44 (rF s.length st).2) hl hK (rTake_suf (rF_suf (L := s.length) hs) _) (i := 0) (g := 0) (ver := (Nat.succ (t3.vr 0))) (h := (t3.h.set 0 (bk 0 90 true (Nat.succ (t3.vr 0)) [.str s, .int .i64 ((atN s (rTake 44 (rF s.length st).2) : Nat) : Int), .bool ((rTake 44 (rF s.length st).2).2)]))) gss) ?_
          refine WO.fin (by kernel_rfl) ?_
          refine W.block ?_
          refine W.loopc (len := (rG s.length st).1.toNat) (fun i t => (S 91 ((some (.ptrO 0 0)) :: (some (.int .i64 deep)) :: none :: none :: (some (.ptrO 1 0)) :: (some (.ptrO 2 0)) :: (some (.int .i64 ((rE s.length st).1 - ((i3 : Nat) : Int)))) :: (some (.int .i64 ((rG s.length st).1 - ((i : Nat) : Int)))) :: (some (.ptrO 0 0)) :: (some (.ptrO 0 0)) :: (some (.ptrO 0 2)) :: (some (.bool false)) :: (some (.bool false)) :: (some (.int .i64 deep)) :: (some (.bool false)) :: (some (.bool false)) :: none :: none :: none :: none :: (some (.ptrO 0 0)) :: (some (.tup [])) :: (some (.ptrO 0 0)) :: (some (.int .i64 ((rA st).1))) :: (some (.ptrO 2 0)) :: (some (.ptrO 0 0)) :: (some (.tup [])) :: (some (.ptrO 0 0)) :: (some (.int .i64 ((rB st).1))) :: (some (.ptrO 2 1)) :: (some (.ptrO 0 0)) :: (some (.tup [])) :: (some (.ptrO 0 0)) :: (some (.int .i64 ((rC st).1))) :: (some (.ptrO 2 2)) :: (some (.ptrO 0 0)) :: (some (.tup [])) :: (some (.ptrO 0 0)) :: (some (.str ((rD s.length st).1))) :: (some (.ptrO 2 3)) :: (some (.ptrO 0 0)) :: (some (.tup [])) :: (some (.ptrO 0 0)) :: (some (.int .i64 ((rE s.length st).1))) :: (some (.int .i64 ((rE s.length st).1 - ((i3 : Nat) : Int)))) :: (some (.bool false)) :: (some (.bool false)) :: (some (.tup [])) :: (some (.tup [])) :: (some (.tup [])) :: (some (.tup [])) :: (some (.tup [])) :: (some (.bool false)) :: (t.g 53) :: (t.g 54) :: (t.g 55) :: (t.g 56) :: (t.g 57) :: (t.g 58) :: (t.g 59) :: (t.g 60) :: (t.g 61) :: (t.g 62) :: (t.g 63) :: (some (.ptrO 0 0)) :: (some (.tup [])) :: (some (.ptrO 0 0)) :: (some (.int .i64 ((rG s.length st).1))) :: (t.g 68) :: (t.g 69) :: (t.g 70) :: (t.g 71) :: (t.g 72) :: (t.g 73) :: (t.g 74) :: (t.g 75) :: (t.g 76) :: (t.g 77) :: (t.g 78) :: (t.g 79) :: (t.g 80) :: (t.g 81) :: (t.g 82) :: (t.g 83) :: (t.g 84) :: (t.g 85) :: (t.g 86) :: (t.g 87) :: none :: none :: none :: []) t.h)) (fun i t => (OwnV t.h (t.cv 2 5) (itL (rVal s.length d (deep + 1)) i ([], (rG s.length st).2)).1 t3.h.next t.h.next ∧ OwnT t.h (t3.cv 2 4) (rF s.length st).1 3 t3.h.next ∧ ∀ j : Nat, j < i → (itL (rVal s.length d (deep + 1)) j ([], (rG s.length st).2)).2.2 = false) ∧ (t.h.get 0 = some (bk 0 90 true (t.vr 0) [.str s, .int .i64 ((atN s ((itL (rVal s.length d (deep + 1)) i ([], (rG s.length st).2)).2) : Nat) : Int), .bool (((itL (rVal s.length d (deep + 1)) i ([], (rG s.length st).2)).2).2)])) ∧ (t.h.get 1 = some (bk 1 35 true (t.vr 1) [.int .i64 0, .int .i64 0, .int .i64 0, .str [], .nils, .nils])) ∧ (t.h.get 2 = some (bk 2 35 true (t.vr 2) [.int .i64 ((rA st).1), .int .i64 ((rB st).1), .int .i64 ((rC st).1), .str ((rD s.length st).1), (t3.cv 2 4), (t.cv 2 5)])) ∧ (3 ≤ t.h.next)) hlK2 ?_ ?_ ?_
          · refine Told.put 7 (show AV.int .i64 (rG s.length st).1 = AV.int .i64 ((rG s.length st).1 - ((0 : Nat) : Int)) from congrArg (AV.int .i64) (Int.sub_zero _).symm) (by kernel_rfl) ?_; exact Told.k (by kernel_rfl)
          · refine ⟨?_, hv_fact (h := ((t3.h.set 0 (bk 0 90 true (Nat.succ (t3.vr 0)) [.str s, .int .i64 ((atN s (rTake 44 (rF s.length st).2) : Nat) : Int), .bool ((rTake 44 (rF s.length st).2).2)])).set 0 (bk 0 90 true (Nat.succ (Nat.succ (t3.vr 0))) [.str s, .int .i64 ((atN s ((rG s.length st).2) : Nat) : Int), .bool (((rG s.length st).2).2)]))) (ver := (Nat.succ (Nat.succ (t3.vr 0)))) (cs := [.str s, .int .i64 ((atN s ((rG s.length st).2) : Nat) : Int), .bool (((rG s.length st).2).2)]) (by kernel_rfl) gss (by rfl), hv_fact (h := ((t3.h.set 0 (bk 0 90 true (Nat.succ (t3.vr 0)) [.str s, .int .i64 ((atN s (rTake 44 (rF s.length st).2) : Nat) : Int), .bool ((rTake 44 (rF s.length st).2).2)])).set 0 (bk 0 90 true (Nat.succ (Nat.succ (t3.vr 0))) [.str s, .int .i64 ((atN s ((rG s.length st).2) : Nat) : Int), .bool (((rG s.length st).2).2)]))) (ver := (t3.vr 1)) (cs := [.int .i64 0, .int .i64 0, .int .i64 0, .str [], .nils, .nils]) (by kernel_rfl) (gso (by omega) (gso (by omega) hg1_i3)) (by rfl), hv_fact (h := ((t3.h.set 0 (bk 0 90 true (Nat.succ (t3.vr 0)) [.str s, .int .i64 ((atN s (rTake 44 (rF s.length st).2) : Nat) : Int), .bool ((rTake 44 (rF s.length st).2).2)])).set 0 (bk 0 90 true (Nat.succ (Nat.succ (t3.vr 0))) [.str s, .int .i64 ((atN s ((rG s.length st).2) : Nat) : Int), .bool (((rG s.length st).2).2)]))) (ver := (t3.vr 2)) (cs := [.int .i64 ((rA st).1), .int .i64 ((rB st).1), .int .i64 ((rC st).1), .str ((rD s.length st).1), (t3.cv 2 4), .nils]) (by kernel_rfl) (gso (by omega) (gso (by omega) hg2_i3)) (by exact six_cv5 (cv_of (h := ((t3.h.set 0 (bk 0 90 true (Nat.succ (t3.vr 0)) [.str s, .int .i64 ((atN s (rTake 44 (rF s.length st).2) : Nat) : Int), .bool ((rTake 44 (rF s.length st).2).2)])).set 0 (bk 0 90 true (Nat.succ (Nat.succ (t3.vr 0))) [.str s, .int .i64 ((atN s ((rG s.length st).2) : Nat) : Int), .bool (((rG s.length st).2).2)]))) (b := bk 2 35 true (t3.vr 2) [.int .i64 ((rA st).1), .int .i64 ((rB st).1), .int .i64 ((rC st).1), .str ((rD s.length st).1), (t3.cv 2 4), .nils]) (by kernel_rfl) (gso (by omega) (gso (by omega) hg2_i3)) rfl)), hv_next (h := ((t3.h.set 0 (bk 0 90 true (Nat.succ (t3.vr 0)) [.str s, .int .i64 ((atN s (rTake 44 (rF s.length st).2) : Nat) : Int), .bool ((rTake 44 (rF s.length st).2).2)])).set 0 (bk 0 90 true (Nat.succ (Nat.succ (t3.vr 0))) [.str s, .int .i64 ((atN s ((rG s.length st).2) : Nat) : Int), .bool (((rG s.length st).2).2)]))) (by kernel_rfl) (by first | omega | (simp only [nnew, nset]; omega))⟩
            exact ⟨OwnV.at (h := ((t3.h.set 0 (bk 0 90 true (Nat.succ (t3.vr 0)) [.str s, .int .i64 ((atN s (rTake 44 (rF s.length st).2) : Nat) : Int), .bool ((rTake 44 (rF s.length st).2).2)])).set 0 (bk 0 90 true (Nat.succ (Nat.succ (t3.vr 0))) [.str s, .int .i64 ((atN s ((rG s.length st).2) : Nat) : Int), .bool (((rG s.length st).2).2)]))) (x := .nils) (l := []) (b := bk 2 35 true (t3.vr 2) [.int .i64 ((rA st).1), .int .i64 ((rB st).1), .int .i64 ((rC st).1), .str ((rD s.length st).1), (t3.cv 2 4), .nils]) (by kernel_rfl) (gso (by omega) (gso (by omega) hg2_i3)) rfl rfl (OwnR.nil _ _ _ (Nat.le_refl _)), OwnT.in (h := ((t3.h.set 0 (bk 0 90 true (Nat.succ (t3.vr 0)) [.str s, .int .i64 ((atN s (rTake 44 (rF s.length st).2) : Nat) : Int), .bool ((rTake 44 (rF s.length st).2).2)])).set 0 (bk 0 90 true (Nat.succ (Nat.succ (t3.vr 0))) [.str s, .int .i64 ((atN s ((rG s.length st).2) : Nat) : Int), .bool (((rG s.length st).2).2)]))) (by kernel_rfl) (OwnR.set (j := 0) (Or.inl (by omega)) (OwnR.set (j := 0) (Or.inl (by omega)) hy14)), fun j hj => by omega⟩
          · rintro i15 t15 hi15 ⟨hI15, hg0_i15, hg1_i15, hg2_i15, hnx_i15⟩
            refine W.seq ?_
            refine W.seq ?_
            refine W.region ?_
            refine WO.adv 3 (by kernel_rfl) ?_
            refine splitB (decide (((rG s.length st).1 - ((i15 : Nat) : Int)) > 0)) (fun hb16 => ?_) (fun hb16 => ?_)
            · refine WO.sub 69 hb16 (by kernel_rfl) ?_
              refine WO.sub 70 hb16 (by kernel_rfl) ?_
              refine WO.adv 3 (by kernel_rfl) ?_
              refine WO.opk (y := keep t15.h (opLoad (Cg K) t15.h 4 (.ptrO 0 2))) (x := .bool (((itL (rVal s.length d (deep + 1)) i15 ([], (rG s.length st).2)).2).2)) (h' := t15.h) (load_k hg0_i15 (by kernel_rfl)) (by kernel_rfl) ?_
              refine WO.fin (by kernel_rfl) ?_
              refine W.cond (!(((itL (rVal s.length d (deep + 1)) i15 ([], (rG s.length st).2)).2).2)) (by kernel_rfl) (fun hb17 => ?_) (fun hb17 => ?_)
              · refine W.sub 75 hb17 (by kernel_rfl) ?_
                refine W.sub 76 hb17 (by kernel_rfl) ?_
                refine W.skip ?_
                refine W.seq ?_
                refine W.block ?_
                refine W.drawn2 (by kernel_rfl) ?_
                refine WE.adv (j' := 1) 1 (by kernel_rfl) (by kernel_rfl) ?_
                refine WE.opr (y := keep t15.h (opLoad (Cg K) t15.h 33 (.ptrO 2 5))) (x := (t15.cv 2 5)) (id := 2) (by kernel_rfl) (load_k hg2_i15 (by kernel_rfl)) (by kernel_rfl) (by kernel_rfl) (by kernel_rfl) ?_
                refine WE.adv (j' := 5) 3 (by kernel_rfl) (by kernel_rfl) ?_
                refine WE.callh (by kernel_rfl) (by kernel_rfl) (by kernel_rfl) (ih m (by omega) (deep + 1) (wrapF .i64 (deep + 1)) (deep_next hdp hb2) (by omega) ((itL (rVal s.length d (deep + 1)) i15 ([], (rG s.length st).2)).2) (rvs_suf hs i15) (ritem_less hd (fun a => rVal_len d (deep + 1) a) hI15.2.2 (nb_t hb17)) 0 0 (t15.vr 0) t15.h hg0_i15) ?_
                refine WE.opa (y := some (.slO t15.h.next 0 6 1 1 true, ((t15.h.set 0 (bk 0 90 true (Nat.succ (t15.vr 0)) [.str s, .int .i64 ((atN s ((rVal s.length d (deep + 1) ((itL (rVal s.length d (deep + 1)) i15 ([], (rG s.length st).2)).2)).2) : Nat) : Int), .bool (((rVal s.length d (deep + 1) ((itL (rVal s.length d (deep + 1)) i15 ([], (rG s.length st).2)).2)).2).2)])).new 35 true ((rVal s.length d (deep + 1) ((itL (rVal s.length d (deep + 1)) i15 ([], (rG s.length st).2)).2)).1.six)))) rfl (by kernel_rfl) (by kernel_rfl) ?_
                obtain ⟨x18, h18, he18, hO18, hK18⟩ := append_v (K := K) (h := ((t15.h.set 0 (bk 0 90 true (Nat.succ (t15.vr 0)) [.str s, .int .i64 ((atN s ((rVal s.length d (deep + 1) ((itL (rVal s.length d (deep + 1)) i15 ([], (rG s.length st).2)).2)).2) : Nat) : Int), .bool (((rVal s.length d (deep + 1) ((itL (rVal s.length d (deep + 1)) i15 ([], (rG s.length st).2)).2)).2).2)])).new 35 true ((rVal s.length d (deep + 1) ((itL (rVal s.length d (deep + 1)) i15 ([], (rG s.length st).2)).2)).1.six))) (v := (t15.cv 2 5)) (l := (itL (rVal s.length d (deep + 1)) i15 ([], (rG s.length st).2)).1) (id := t15.h.next) (g := t15.h.next) (ver := 0) (x := (rVal s.length d (deep + 1) ((itL (rVal s.length d (deep + 1)) i15 ([], (rG s.length st).2)).2)).1) (OwnR.new (OwnR.set (j := 0) (Or.inl (by omega)) hI15.1)) (by have h1 : (itL (rVal s.length d (deep + 1)) i15 ([], (rG s.length st).2)).1.length = 0 + i15 := it_cnt (B := (rVal s.length d (deep + 1))) _ i15; have h2 := hi15; omega) gnew
                have hn18 := hK18.1
                simp only [nnew, nset] at hn18
                refine WE.opm he18 (by kernel_rfl) (by kernel_rfl) ?_
                refine WE.adv (j' := 9) 1 (by kernel_rfl) (by kernel_rfl) ?_
                refine WE.opm (y := opStore (Cg K) h18 33 (.ptrO 2 5) (x18)) (x := .tup []) (h' := (h18.set 2 (bk 2 35 true (Nat.succ (t15.vr 2)) [.int .i64 ((rA st).1), .int .i64 ((rB st).1), .int .i64 ((rC st).1), .str ((rD s.length st).1), (t3.cv 2 4), x18]))) (store_o (hK18.2 2 _ (gnewo (by first | omega | (simp only [nnew, nset]; omega)) (gso (by omega) hg2_i15)) (by first | omega | (simp only [nnew, nset]; omega)) (show 2 < t3.h.next by omega)) (OwnR.plain hO18) (by kernel_rfl) (by kernel_rfl)) (by kernel_rfl) (by kernel_rfl) ?_
                refine WE.finm (id := 2) (jc := 5) (jm := 6) (n0 := t15.h.next) (B := bk 2 35 true (t15.vr 2) [.int .i64 ((rA st).1), .int .i64 ((rB st).1), .int .i64 ((rC st).1), .str ((rD s.length st).1), (t3.cv 2 4), (t15.cv 2 5)]) (h := t15.h) (h' := (t15.h.set 0 (bk 0 90 true (Nat.succ (t15.vr 0)) [.str s, .int .i64 ((atN s ((rVal s.length d (deep + 1) ((itL (rVal s.length d (deep + 1)) i15 ([], (rG s.length st).2)).2)).2) : Nat) : Int), .bool (((rVal s.length d (deep + 1) ((itL (rVal s.length d (deep + 1)) i15 ([], (rG s.length st).2)).2)).2).2)]))) (by kernel_rfl) (by kernel_rfl) (by kernel_rfl) (vblk_refl (OwnR.flat (h := t15.h) (k := 63) hI15.2.1) (OwnR.flat (h := t15.h) (k := 63) hI15.1)) hg2_i15 (gso (by omega) hg2_i15) (by omega) ?_
                refine W.region ?_
                refine WO.fin (by kernel_rfl) ?_
                have hlt : i15 < (rG s.length st).1.toNat := (cnt_lt hb16)
                refine ⟨hlt, ⟨?_, hv_fact (h := (h18.set 2 (bk 2 35 true (Nat.succ (t15.vr 2)) [.int .i64 ((rA st).1), .int .i64 ((rB st).1), .int .i64 ((rC st).1), .str ((rD s.length st).1), (t3.cv 2 4), x18]))) (ver := (Nat.succ (t15.vr 0))) (cs := [.str s, .int .i64 ((atN s ((rVal s.length d (deep + 1) ((itL (rVal s.length d (deep + 1)) i15 ([], (rG s.length st).2)).2)).2) : Nat) : Int), .bool (((rVal s.length d (deep + 1) ((itL (rVal s.length d (deep + 1)) i15 ([], (rG s.length st).2)).2)).2).2)]) (by kernel_rfl) (gso (by omega) (hK18.2 0 _ (gnewo (by first | omega | (simp only [nnew, nset]; omega)) gss) (by first | omega | (simp only [nnew, nset]; omega)) (show 0 < t3.h.next by omega))) (by rw [itL_succ]; first | done | rfl), hv_fact (h := (h18.set 2 (bk 2 35 true (Nat.succ (t15.vr 2)) [.int .i64 ((rA st).1), .int .i64 ((rB st).1), .int .i64 ((rC st).1), .str ((rD s.length st).1), (t3.cv 2 4), x18]))) (ver := (t15.vr 1)) (cs := [.int .i64 0, .int .i64 0, .int .i64 0, .str [], .nils, .nils]) (by kernel_rfl) (gso (by omega) (hK18.2 1 _ (gnewo (by first | omega | (simp only [nnew, nset]; omega)) (gso (by omega) hg1_i15)) (by first | omega | (simp only [nnew, nset]; omega)) (show 1 < t3.h.next by omega))) (by rfl), hv_fact (h := (h18.set 2 (bk 2 35 true (Nat.succ (t15.vr 2)) [.int .i64 ((rA st).1), .int .i64 ((rB st).1), .int .i64 ((rC st).1), .str ((rD s.length st).1), (t3.cv 2 4), x18]))) (ver := (Nat.succ (t15.vr 2))) (cs := [.int .i64 ((rA st).1), .int .i64 ((rB st).1), .int .i64 ((rC st).1), .str ((rD s.length st).1), (t3.cv 2 4), x18]) (by kernel_rfl) gss (by exact six_cv5 (cv_of (h := (h18.set 2 (bk 2 35 true (Nat.succ (t15.vr 2)) [.int .i64 ((rA st).1), .int .i64 ((rB st).1), .int .i64 ((rC st).1), .str ((rD s.length st).1), (t3.cv 2 4), x18]))) (b := bk 2 35 true (Nat.succ (t15.vr 2)) [.int .i64 ((rA st).1), .int .i64 ((rB st).1), .int .i64 ((rC st).1), .str ((rD s.length st).1), (t3.cv 2 4), x18]) (by kernel_rfl) gss rfl)), hv_next (h := (h18.set 2 (bk 2 35 true (Nat.succ (t15.vr 2)) [.int .i64 ((rA st).1), .int .i64 ((rB st).1), .int .i64 ((rC st).1), .str ((rD s.length st).1), (t3.cv 2 4), x18]))) (by kernel_rfl) (by first | omega | (simp only [nnew, nset]; omega))⟩, ?_⟩
                · exact ⟨OwnV.at (h := (h18.set 2 (bk 2 35 true (Nat.succ (t15.vr 2)) [.int .i64 ((rA st).1), .int .i64 ((rB st).1), .int .i64 ((rC st).1), .str ((rD s.length st).1), (t3.cv 2 4), x18]))) (x := x18) (b := bk 2 35 true (Nat.succ (t15.vr 2)) [.int .i64 ((rA st).1), .int .i64 ((rB st).1), .int .i64 ((rC st).1), .str ((rD s.length st).1), (t3.cv 2 4), x18]) (by kernel_rfl) gss rfl (by rw [itL_succ]; first | done | rfl) (OwnR.grow (OwnR.set (j := 2) (Or.inl (by omega)) hO18)), OwnT.in (h := (h18.set 2 (bk 2 35 true (Nat.succ (t15.vr 2)) [.int .i64 ((rA st).1), .int .i64 ((rB st).1), .int .i64 ((rC st).1), .str ((rD s.length st).1), (t3.cv 2 4), x18]))) (by kernel_rfl) (OwnR.set (j := 2) (Or.inl (by omega)) (OwnR.keep hK18 (Nat.le_refl _) (OwnR.new (OwnR.set (j := 0) (Or.inl (by omega)) hI15.2.1)))), fun j hj => by rcases Nat.lt_succ_iff_lt_or_eq.1 hj with h | rfl; exact hI15.2.2 j h; exact (nb_t hb17)⟩
                · refine Told.put 7 (show AV.int .i64 (wrapF .i64 (((rG s.length st).1 - ((i15 : Nat) : Int)) - 1)) = AV.int .i64 ((rG s.length st).1 - (((i15 + 1) : Nat) : Int)) from congrArg (AV.int .i64) (cnt_next (rCount_le _ _).1 hG2 (by have := hi15; omega))) (by kernel_rfl) ?_
                  exact Told.k (by kernel_rfl)
              · refine W.sub 75 hb17 (by kernel_rfl) ?_
                refine W.sub 76 hb17 (by kernel_rfl) ?_
                refine W.exit ?_
                have hF19 := rH_eq (L := s.length) (st := st) (i := i15) hi15 hI15.2.2 (.inr (nb_f hb17))
                have hz19 : t15.h.get 0 = some (bk 0 90 true (t15.vr 0) [.str s, .int .i64 ((atN s ((rH s.length (rVal s.length d (deep + 1)) st).2) : Nat) : Int), .bool (((rH s.length (rVal s.length d (deep + 1)) st).2).2)]) := by rw [← hF19]; exact hg0_i15
                have hy19 : OwnV t15.h (t15.cv 2 5) (rH s.length (rVal s.length d (deep + 1)) st).1 t3.h.next t15.h.next := by rw [← hF19]; exact hI15.1
                refine blockQ ?_
                refine W.seq ?_
                refine W.region ?_
                refine WO.adv 1 (by kernel_rfl) ?_
                refine WO.callh (by kernel_rfl) (by kernel_rfl) (rdTake_c (n := m) (by omega) s (rH s.length (rVal s.length d (deep + 1)) st).2 59 hl (rH_suf (L := s.length) hs) (i := 0) (g := 0) (ver := (t15.vr 0)) (h := t15.h) hz19) ?_
                refine WO.nil ?_
                refine W.seq ?_
                refine W.region ?_
                refine WO.opk (y := keep (t15.h.set 0 (bk 0 90 true (Nat.succ (t15.vr 0)) [.str s, .int .i64 ((atN s (rI s.length (rVal s.length d (deep + 1)) st) : Nat) : Int), .bool ((rI s.length (rVal s.length d (deep + 1)) st).2)])) (opLoad (Cg K) (t15.h.set 0 (bk 0 90 true (Nat.succ (t15.vr 0)) [.str s, .int .i64 ((atN s (rI s.length (rVal s.length d (deep + 1)) st) : Nat) : Int), .bool ((rI s.length (rVal s.length d (deep + 1)) st).2)])) 35 (.ptrO 2 0))) (x := .agg [.int .i64 ((rA st).1), .int .i64 ((rB st).1), .int .i64 ((rC st).1), .str ((rD s.length st).1), (t3.cv 2 4), (t15.cv 2 5)]) (h' := (t15.h.set 0 (bk 0 90 true (Nat.succ (t15.vr 0)) [.str s, .int .i64 ((atN s (rI s.length (rVal s.length d (deep + 1)) st) : Nat) : Int), .bool ((rI s.length (rVal s.length d (deep + 1)) st).2)]))) (load_k (gso (by omega) hg2_i15) (by kernel_rfl)) (by kernel_rfl) ?_
                refine WO.opk (y := opStore (Cg K) (t15.h.set 0 (bk 0 90 true (Nat.succ (t15.vr 0)) [.str s, .int .i64 ((atN s (rI s.length (rVal s.length d (deep + 1)) st) : Nat) : Int), .bool ((rI s.length (rVal s.length d (deep + 1)) st).2)])) 35 (.ptrO 1 0) (.agg [.int .i64 ((rA st).1), .int .i64 ((rB st).1), .int .i64 ((rC st).1), .str ((rD s.length st).1), (t3.cv 2 4), (t15.cv 2 5)])) (x := .tup []) (h' := ((t15.h.set 0 (bk 0 90 true (Nat.succ (t15.vr 0)) [.str s, .int .i64 ((atN s (rI s.length (rVal s.length d (deep + 1)) st) : Nat) : Int), .bool ((rI s.length (rVal s.length d (deep + 1)) st).2)])).set 1 (bk 1 35 true (Nat.succ (t15.vr 1)) [.int .i64 ((rA st).1), .int .i64 ((rB st).1), .int .i64 ((rC st).1), .str ((rD s.length st).1), (t3.cv 2 4), (t15.cv 2 5)]))) (store_k (gso (by omega) hg1_i15) (by kernel_rfl) (by kernel_rfl)) (by kernel_rfl) ?_
                refine WO.nil ?_
                refine W.ret ?_
                exact RetF.kh (vs := [.agg [.int .i64 ((rA st).1), .int .i64 ((rB st).1), .int .i64 ((rC st).1), .str ((rD s.length st).1), (t3.cv 2 4), (t15.cv 2 5)]]) (h' := ((t15.h.set 0 (bk 0 90 true (Nat.succ (t15.vr 0)) [.str s, .int .i64 ((atN s (rI s.length (rVal s.length d (deep + 1)) st) : Nat) : Int), .bool ((rI s.length (rVal s.length d (deep + 1)) st).2)])).set 1 (bk 1 35 true (Nat.succ (t15.vr 1)) [.int .i64 ((rA st).1), .int .i64 ((rB st).1), .int .i64 ((rC st).1), .str ((rD s.length st).1), (t3.cv 2 4), (t15.cv 2 5)]))) (ver := (Nat.succ (t15.vr 0))) (cs' := [.str s, .int .i64 ((atN s (rI s.length (rVal s.length d (deep + 1)) st) : Nat) : Int), .bool ((rI s.length (rVal s.length d (deep + 1)) st).2)]) (by kernel_rfl) (by rw [rVal_go (by rw [hb1, hb2]; rfl)]) (by kernel_rfl) (res_cell (p := .ptrO 1 0) (by kernel_rfl) (load_k gss (by kernel_rfl))) (gso (by omega) gss) (by rw [rVal_go (by rw [hb1, hb2]; rfl)]; exact fr_six (k := 60) (OwnR.set (j := 0) (Or.inl (by omega)) (OwnR.set (j := 1) (Or.inl (by omega)) (OwnR.set (j := 0) (Or.inl (by omega)) hI15.2.1))) (OwnR.set (j := 0) (Or.inl (by omega)) (OwnR.set (j := 1) (Or.inl (by omega)) (OwnR.set (j := 0) (Or.inl (by omega)) hy19))))
            · refine WO.sub 69 hb16 (by kernel_rfl) ?_
              refine WO.sub 70 hb16 (by kernel_rfl) ?_
              refine WO.fin (by kernel_rfl) ?_
              refine W.cond false (by kernel_rfl) (fun h => by cases h) (fun _ => ?_)
              refine W.exit ?_
              have hF20 := rH_eq (L := s.length) (st := st) (i := i15) hi15 hI15.2.2 (.inl (cnt_end hb16))
              have hz20 : t15.h.get 0 = some (bk 0 90 true (t15.vr 0) [.str s, .int .i64 ((atN s ((rH s.length (rVal s.length d (deep + 1)) st).2) : Nat) : Int), .bool (((rH s.length (rVal s.length d (deep + 1)) st).2).2)]) := by rw [← hF20]; exact hg0_i15
              have hy20 : OwnV t15.h (t15.cv 2 5) (rH s.length (rVal s.length d (deep + 1)) st).1 t3.h.next t15.h.next := by rw [← hF20]; exact hI15.1
              refine blockQ ?_
              refine W.seq ?_
              refine W.region ?_
              refine WO.adv 1 (by kernel_rfl) ?_
              refine WO.callh (by kernel_rfl) (by kernel_rfl) (rdTake_c (n := m) (by omega) s (rH s.length (rVal s.length d (deep + 1)) st).2 59 hl (rH_suf (L := s.length) hs) (i := 0) (g := 0) (ver := (t15.vr 0)) (h := t15.h) hz20) ?_
              refine WO.nil ?_
              refine W.seq ?_
              refine W.region ?_
              refine WO.opk (y := keep (t15.h.set 0 (bk 0 90 true (Nat.succ (t15.vr 0)) [.str s, .int .i64 ((atN s (rI s.length (rVal s.length d (deep + 1)) st) : Nat) : Int), .bool ((rI s.length (rVal s.length d (deep + 1)) st).2)])) (opLoad (Cg K) (t15.h.set 0 (bk 0 90 true (Nat.succ (t15.vr 0)) [.str s, .int .i64 ((atN s (rI s.length (rVal s.length d (deep + 1)) st) : Nat) : Int), .bool ((rI s.length (rVal s.length d (deep + 1)) st).2)])) 35 (.ptrO 2 0))) (x := .agg [.int .i64 ((rA st).1), .int .i64 ((rB st).1), .int .i64 ((rC st).1), .str ((rD s.length st).1), (t3.cv 2 4), (t15.cv 2 5)]) (h' := (t15.h.set 0 (bk 0 90 true (Nat.succ (t15.vr 0)) [.str s, .int .i64 ((atN s (rI s.length (rVal s.length d (deep + 1)) st) : Nat) : Int), .bool ((rI s.length (rVal s.length d (deep + 1)) st).2)]))) (load_k (gso (by omega) hg2_i15) (by kernel_rfl)) (by kernel_rfl) ?_
              refine WO.opk (y := opStore (Cg K) (t15.h.set 0 (bk 0 90 true (Nat.succ (t15.vr 0)) [.str s, .int .i64 ((atN s (rI s.length (rVal s.length d (deep + 1)) st) : Nat) : Int), .bool ((rI s.length (rVal s.length d (deep + 1)) st).2)])) 35 (.ptrO 1 0) (.agg [.int .i64 ((rA st).1), .int .i64 ((rB st).1), .int .i64 ((rC st).1), .str ((rD s.length st).1), (t3.cv 2 4), (t15.cv 2 5)])) (x := .tup []) (h' := ((t15.h.set 0 (bk 0 90 true (Nat.succ (t15.vr 0)) [.str s, .int .i64 ((atN s (rI s.length (rVal s.length d (deep + 1)) st) : Nat) : Int), .bool ((rI s.length (rVal s.length d (deep + 1)) st).2)])).set 1 (bk 1 35 true (Nat.succ (t15.vr 1)) [.int .i64 ((rA st).1), .int .i64 ((rB st).1), .int .i64 ((rC st).1), .str ((rD s.length st).1), (t3.cv 2 4), (t15.cv 2 5)]))) (store_k (gso (by omega) hg1_i15) (by kernel_rfl) (by kernel_rfl)) (by kernel_rfl) ?_
              refine WO.nil ?_
              refine W.ret ?_
              exact RetF.kh (vs := [.agg [.int .i64 ((rA st).1), .int .i64 ((rB st).1), .int .i64 ((rC st).1), .str ((rD s.length st).1), (t3.cv 2 4), (t15.cv 2 5)]]) (h' := ((t15.h.set 0 (bk 0 90 true (Nat.succ (t15.vr 0)) [.str s, .int .i64 ((atN s (rI s.length (rVal s.length d (deep + 1)) st) : Nat) : Int), .bool ((rI s.length (rVal s.length d (deep + 1)) st).2)])).set 1 (bk 1 35 true (Nat.succ (t15.vr 1)) [.int .i64 ((rA st).1), .int .i64 ((rB st).1), .int .i64 ((rC st).1), .str ((rD s.length st).1), (t3.cv 2 4), (t15.cv 2 5)]))) (ver := (Nat.succ (t15.vr 0))) (cs' := [.str s, .int .i64 ((atN s (rI s.length (rVal s.length d (deep + 1)) st) : Nat) : Int), .bool ((rI s.length (rVal s.length d (deep + 1)) st).2)]) (by kernel_rfl) (by rw [rVal_go (by rw [hb1, hb2]; rfl)]) (by kernel_rfl) (res_cell (p := .ptrO 1 0) (by kernel_rfl) (load_k gss (by kernel_rfl))) (gso (by omega) gss) (by rw [rVal_go (by rw [hb1, hb2]; rfl)]; exact fr_six (k := 60) (OwnR.set (j := 0) (Or.inl (by omega)) (OwnR.set (j := 1) (Or.inl (by omega)) (OwnR.set (j := 0) (Or.inl (by omega)) hI15.2.1))) (OwnR.set (j := 0) (Or.inl (by omega)) (OwnR.set (j := 1) (Or.inl (by omega)) (OwnR.set (j := 0) (Or.inl (by omega)) hy20))))

theorem rdValue2_c {s : List UInt8} (hl : s.length ≤ 4000) (hK : big ≤ K) : ∀ d, RValOk K s d
  | 0 => fun _ _ _ _ _ _ _ _ hd => absurd hd (Nat.not_lt_zero _)
  | d + 1 => rdVal2_step hl hK (rdValue2_c hl hK d)
end
end Go.Abs
namespace Go.Abs
noncomputable section
open Go Go.Proofs
variable {K : Nat}
section
variable {s : List UInt8}
theorem at_zero : atN s (s, false) = 0 := Nat.sub_self _
theorem pA_suf : (pA s).2.1 <:+ s := by unfold pA; exact rNum_suf (st := (s, false)) (List.suffix_refl s)
theorem pB_suf : (pB s).2.1 <:+ s := by unfold pB; exact rNum_suf (rTake_suf pA_suf 32)
theorem pC_suf : (pC s).2.1 <:+ s := by unfold pC; exact rNum_suf (rTake_suf pB_suf 32)
theorem pD_suf : (pD s).2.1 <:+ s := by
  unfold pD
  have h := rTake_suf (@pC_suf s) 32
  generalize rTake 32 (pC s).2 = z at h ⊢
  exact rText_suf h s.length
theorem pE_suf : (pE s).2.1 <:+ s := by
  unfold pE
  have h := rTake_suf (@pD_suf s) 32
  generalize rTake 32 (pD s).2 = z at h ⊢
  exact rText_suf h s.length
theorem pF_suf : (pF s).2.1 <:+ s := by unfold pF; exact rVal_suf _ _ _ (rTake_suf pE_suf 32)
theorem at_end {x : RS} (hs : x.1 <:+ s) : (((atN s x : Nat) : Int) != ((lenN s : Nat) : Int)) = !(decide (x.1 = [])) := by
  have h := suf_len hs
  rw [lenN_eq]
  cases hx : x.1 with
  | nil =>
    rw [hx] at h
    simp only [List.length_nil] at h
    rw [show atN s x = s.length by omega]; simp
  | cons a l =>
    rw [hx] at h
    simp only [List.length_cons] at h
    rw [show decide (a :: l = []) = false from rfl]
    exact bne_iff_ne.2 (by omega)
theorem rParse_long (h : decide (((lenN s : Nat) : Int) > 4000) = true) : rParse s = (default, 2) := by unfold rParse; rw [h]; rfl
theorem rParse_bad (h : decide (((lenN s : Nat) : Int) > 4000) = false) (h2 : ((pF s).2.2 || (((atN s (pF s).2 : Nat) : Int) != ((lenN s : Nat) : Int))) = true) : rParse s = (default, 8) := by
  rw [at_end pF_suf] at h2
  unfold rParse; rw [h, h2]; rfl
theorem rParse_err (h : decide (((lenN s : Nat) : Int) > 4000) = false) (h2 : ((pF s).2.2 || (((atN s (pF s).2 : Nat) : Int) != ((lenN s : Nat) : Int))) = false) (h3 : (evErr (rEv s) != 0) = true) : rParse s = (default, evErr (rEv s)) := by
  rw [at_end pF_suf] at h2
  unfold rParse; rw [h, h2, h3]; rfl
theorem rParse_ok (h : decide (((lenN s : Nat) : Int) > 4000) = false) (h2 : ((pF s).2.2 || (((atN s (pF s).2 : Nat) : Int) != ((lenN s : Nat) : Int))) = false) (h3 : (evErr (rEv s) != 0) = false) : rParse s = (rEv s, 0) := by
  rw [at_end pF_suf] at h2
  unfold rParse; rw [h, h2, h3]; rfl
end
set_option maxRecDepth 20000 in
theorem refParse_c {n : Nat}  (hn : 4020 ≤ n) (s : List UInt8) (hK : big ≤ K)  (h : Heap) : (fns (Cg K) n).call 24 [.str s] h none = some (.val (.tup [.agg (rParse s).1.elv, .int .i64 (rParse s).2]) h none) := by
  obtain ⟨m, rfl⟩ : ∃ m, n = m + 1 := ⟨n - 1, by omega⟩
  refine pureq (C := Cg K) (F := fns (Cg K) m) (fn := Tryz.f24) (c := bodyOf Tryz.f24) (by kernel_rfl) (by kernel_rfl) (by kernel_rfl) (by kernel_rfl) (by kernel_rfl) (by kernel_rfl) (by kernel_rfl) ?_ h
  refine W.seq ?_
  refine W.region ?_
  refine WO.fin (by kernel_rfl) ?_
  refine W.seq ?_
  refine W.seq ?_
  refine W.region ?_
  refine WO.fin (by kernel_rfl) ?_
  refine W.cond (decide (((lenN s : Nat) : Int) > 4000)) (by kernel_rfl) (fun hb1 => ?_) (fun hb1 => ?_)
  · refine W.sub 9 hb1 (by kernel_rfl) ?_
    refine W.seq ?_
    refine W.region ?_
    refine WO.fin (by kernel_rfl) ?_
    refine W.ret ?_
    exact RetQ.k (v' := .tup [.agg [.int .i64 0, .int .i64 0, .str [], .str [], .int .i64 0, .int .i64 0, .int .i64 0, .str [], .nils, .nils, .int .i64 0], .int .i64 2]) (by rw [rParse_long hb1]; rfl) (by kernel_rfl) (by kernel_rfl)
  · refine W.sub 9 hb1 (by kernel_rfl) ?_
    refine W.skip ?_
    refine W.seq ?_
    refine W.region ?_
    refine WO.fin (by kernel_rfl) ?_
    refine W.seq ?_
    refine W.region ?_
    refine WO.fin (by kernel_rfl) ?_
    refine W.seq ?_
    refine W.region ?_
    refine WO.adv 1 (by kernel_rfl) ?_
    refine WO.callh (by kernel_rfl) (by kernel_rfl) (rdNum_c (n := m) (by omega) s (s, false) (len_ok hb1) hK (List.suffix_refl s) (i := 1) (g := 1) (ver := 0) (h := (hpL [bk 0 37 true 0 [.int .i64 0, .int .i64 0, .str [], .str [], .int .i64 0, .int .i64 0, .int .i64 0, .str [], .nils, .nils, .int .i64 0], bk 1 90 true 0 [.str s, .int .i64 0, .bool false], bk 2 37 true 0 [.int .i64 0, .int .i64 0, .str [], .str [], .int .i64 0, .int .i64 0, .int .i64 0, .str [], .nils, .nils, .int .i64 0]])) (Eq.trans (show _ = some (bk 1 90 true 0 [.str s, .int .i64 ((0 : Nat) : Int), .bool false]) from by kernel_rfl) (by rw [at_zero]))) ?_
    refine WO.fin (by kernel_rfl) ?_
    refine W.seq ?_
    refine W.region ?_
    refine WO.adv 1 (by kernel_rfl) ?_
    refine WO.callh (by kernel_rfl) rfl (rdTake_c (n := m) (by omega) s (pA s).2 32 (len_ok hb1) (@pA_suf s) (i := 1) (g := 1) (ver := (Nat.succ 0))  (by kernel_rfl)) ?_
    refine WO.nil ?_
    refine W.seq ?_
    refine W.region ?_
    refine WO.adv 1 (by kernel_rfl) ?_
    refine WO.callh (by kernel_rfl) rfl (rdNum_c (n := m) (by omega) s (rTake 32 (pA s).2) (len_ok hb1) hK (rTake_suf (@pA_suf s) _) (i := 1) (g := 1) (ver := (Nat.succ (Nat.succ 0)))  (by kernel_rfl)) ?_
    refine WO.fin (by kernel_rfl) ?_
    refine W.seq ?_
    refine W.region ?_
    refine WO.adv 1 (by kernel_rfl) ?_
    refine WO.callh (by kernel_rfl) rfl (rdTake_c (n := m) (by omega) s (pB s).2 32 (len_ok hb1) (@pB_suf s) (i := 1) (g := 1) (ver := (Nat.succ (Nat.succ (Nat.succ 0))))  (by kernel_rfl)) ?_
    refine WO.nil ?_
    refine W.seq ?_
    refine W.region ?_
    refine WO.adv 1 (by kernel_rfl) ?_
    refine WO.callh (by kernel_rfl) rfl (rdNum_c (n := m) (by omega) s (rTake 32 (pB s).2) (len_ok hb1) hK (rTake_suf (@pB_suf s) _) (i := 1) (g := 1) (ver := (Nat.succ (Nat.succ (Nat.succ (Nat.succ 0)))))  (by kernel_rfl)) ?_
    refine WO.fin (by kernel_rfl) ?_
    refine W.seq ?_
    refine W.region ?_
    refine WO.adv 1 (by kernel_rfl) ?_
    refine WO.callh (by kernel_rfl) rfl (rdTake_c (n := m) (by omega) s (pC s).2 32 (len_ok hb1) (@pC_suf s) (i := 1) (g := 1) (ver := (Nat.succ (Nat.succ (Nat.succ (Nat.succ (Nat.succ 0))))))  (by kernel_rfl)) ?_
    refine WO.nil ?_
    refine W.seq ?_
    refine W.region ?_
    refine WO.adv 1 (by kernel_rfl) ?_
    refine WO.callh (by kernel_rfl) rfl (rdText2_c (n := m) (by omega) s (rTake 32 (pC s).2) (len_ok hb1) hK (rTake_suf (@pC_suf s) _) (i := 1) (g := 1) (ver := (Nat.succ (Nat.succ (Nat.succ (Nat.succ (Nat.succ (Nat.succ 0)))))))  (by kernel_rfl)) ?_
    refine WO.fin (by kernel_rfl) ?_
    refine W.seq ?_
    refine W.region ?_
    refine WO.adv 1 (by kernel_rfl) ?_
    refine WO.callh (by kernel_rfl) rfl (rdTake_c (n := m) (by omega) s (pD s).2 32 (len_ok hb1) (@pD_suf s) (i := 1) (g := 1) (ver := (Nat.succ (Nat.succ (Nat.succ (Nat.succ (Nat.succ (Nat.succ (Nat.succ 0))))))))  (by kernel_rfl)) ?_
    refine WO.nil ?_
    refine W.seq ?_
    refine W.region ?_
    refine WO.adv 1 (by kernel_rfl) ?_
    refine WO.callh (by kernel_rfl) rfl (rdText2_c (n := m) (by omega) s (rTake 32 (pD s).2) (len_ok hb1) hK (rTake_suf (@pD_suf s) _) (i := 1) (g := 1) (ver := (Nat.succ (Nat.succ (Nat.succ (Nat.succ (Nat.succ (Nat.succ (Nat.succ (Nat.succ 0)))))))))  (by kernel_rfl)) ?_
    refine WO.fin (by kernel_rfl) ?_
    refine W.seq ?_
    refine W.region ?_
    refine WO.adv 1 (by kernel_rfl) ?_
    refine WO.callh (by kernel_rfl) rfl (rdTake_c (n := m) (by omega) s (pE s).2 32 (len_ok hb1) (@pE_suf s) (i := 1) (g := 1) (ver := (Nat.succ (Nat.succ (Nat.succ (Nat.succ (Nat.succ (Nat.succ (Nat.succ (Nat.succ (Nat.succ 0))))))))))  (by kernel_rfl)) ?_
    refine WO.nil ?_
    refine W.seq ?_
    refine W.region ?_
    refine WO.adv 1 (by kernel_rfl) ?_
    refine WO.callh (by kernel_rfl) (by kernel_rfl) (rdValue2_c (len_ok hb1) hK (s.length + 1) m (by have := len_ok hb1; omega) 0 0 rfl (Int.le_refl _) (rTake 32 (pE s).2) (rTake_suf pE_suf 32) (Nat.lt_succ_of_le (rTake_suf pE_suf 32).length_le) 1 1 (Nat.succ (Nat.succ (Nat.succ (Nat.succ (Nat.succ (Nat.succ (Nat.succ (Nat.succ (Nat.succ (Nat.succ 0)))))))))) (hpL [bk 0 37 true 0 [.int .i64 0, .int .i64 0, .str [], .str [], .int .i64 0, .int .i64 0, .int .i64 0, .str [], .nils, .nils, .int .i64 0], bk 1 90 true (Nat.succ (Nat.succ (Nat.succ (Nat.succ (Nat.succ (Nat.succ (Nat.succ (Nat.succ (Nat.succ (Nat.succ 0)))))))))) [.str s, .int .i64 ((atN s (rTake 32 (pE s).2) : Nat) : Int), .bool ((rTake 32 (pE s).2).2)], bk 2 37 true 5 [.int .i64 ((pA s).1), .int .i64 ((pB s).1), .str ((pD s).1), .str ((pE s).1), .int .i64 0, .int .i64 0, .int .i64 0, .str [], .nils, .nils, .int .i64 ((pC s).1)]]) (by kernel_rfl)) ?_
    refine WO.fin (by kernel_rfl) ?_
    refine W.seq ?_
    refine W.seq ?_
    refine W.region ?_
    refine WO.adv 5 (by kernel_rfl) ?_
    refine splitB (((pF s).2).2) (fun hb2 => ?_) (fun hb2 => ?_)
    · refine WO.sub 45 hb2 (by kernel_rfl) ?_
      refine WO.sub 46 hb2 (by kernel_rfl) ?_
      refine WO.fin (by kernel_rfl) ?_
      refine W.cond true (by kernel_rfl) (fun _ => ?_) (fun h => by cases h)
      refine W.seq ?_
      refine W.region ?_
      refine WO.fin (by kernel_rfl) ?_
      refine W.ret ?_
      exact RetQ.k (v' := .tup [.agg [.int .i64 0, .int .i64 0, .str [], .str [], .int .i64 0, .int .i64 0, .int .i64 0, .str [], .nils, .nils, .int .i64 0], .int .i64 8]) (by rw [rParse_bad hb1 (by rw [hb2]; rfl)]; rfl) (by kernel_rfl) (by kernel_rfl)
    · refine WO.sub 45 hb2 (by kernel_rfl) ?_
      refine WO.sub 46 hb2 (by kernel_rfl) ?_
      refine WO.fin (by kernel_rfl) ?_
      refine W.cond (((atN s ((pF s).2) : Nat) : Int) != ((lenN s : Nat) : Int)) (by kernel_rfl) (fun hb3 => ?_) (fun hb3 => ?_)
      · refine W.sub 53 hb3 (by kernel_rfl) ?_
        refine W.sub 54 hb3 (by kernel_rfl) ?_
        refine W.seq ?_
        refine W.region ?_
        refine WO.fin (by kernel_rfl) ?_
        refine W.ret ?_
        exact RetQ.k (v' := .tup [.agg [.int .i64 0, .int .i64 0, .str [], .str [], .int .i64 0, .int .i64 0, .int .i64 0, .str [], .nils, .nils, .int .i64 0], .int .i64 8]) (by rw [rParse_bad hb1 (by rw [hb2, hb3]; rfl)]; rfl) (by kernel_rfl) (by kernel_rfl)
      · refine W.sub 53 hb3 (by kernel_rfl) ?_
        refine W.sub 54 hb3 (by kernel_rfl) ?_
        refine W.skip ?_
        refine W.seq ?_
        refine W.seq ?_
        refine W.region ?_
        refine WO.adv 1 (by kernel_rfl) ?_
        refine WO.callp (by kernel_rfl) (eventErr_c (n := m) (d := s.length + 2) (by have := len_ok hb1; omega) (rEv s) (rEv_sm (len_ok hb1)).1 (rEv_sm (len_ok hb1)).2 hK _) ?_
        refine WO.fin (by kernel_rfl) ?_
        refine W.seq ?_
        refine W.region ?_
        refine WO.fin (by kernel_rfl) ?_
        refine W.cond ((evErr (rEv s)) != 0) (by kernel_rfl) (fun hb4 => ?_) (fun hb4 => ?_)
        · refine W.sub 59 hb4 (by kernel_rfl) ?_
          refine W.seq ?_
          refine W.region ?_
          refine WO.fin (by kernel_rfl) ?_
          refine W.ret ?_
          exact RetQ.k (v' := .tup [.agg [.int .i64 0, .int .i64 0, .str [], .str [], .int .i64 0, .int .i64 0, .int .i64 0, .str [], .nils, .nils, .int .i64 0], .int .i64 (evErr (rEv s))]) (by rw [rParse_err hb1 (by rw [hb2, hb3]; rfl) hb4]; rfl) (by kernel_rfl) (by kernel_rfl)
        · refine W.sub 59 hb4 (by kernel_rfl) ?_
          refine W.skip ?_
          refine W.seq ?_
          refine W.region ?_
          refine WO.fin (by kernel_rfl) ?_
          refine W.ret ?_
          exact RetQ.kh (vs := [.agg (rEv s).elv, .int .i64 0]) (h' := (hpL [bk 0 37 true 1 [.int .i64 ((pA s).1), .int .i64 ((pB s).1), .str ((pD s).1), .str ((pE s).1), .int .i64 ((pF s).1.kind), .int .i64 ((pF s).1.n), .int .i64 ((pF s).1.e), .str ((pF s).1.s), (pF s).1.namesA, (pF s).1.itemsA, .int .i64 ((pC s).1)], bk 1 90 true (Nat.succ (Nat.succ (Nat.succ (Nat.succ (Nat.succ (Nat.succ (Nat.succ (Nat.succ (Nat.succ (Nat.succ (Nat.succ 0))))))))))) [.str s, .int .i64 ((atN s ((pF s).2) : Nat) : Int), .bool (((pF s).2).2)], bk 2 37 true 6 [.int .i64 ((pA s).1), .int .i64 ((pB s).1), .str ((pD s).1), .str ((pE s).1), .int .i64 ((pF s).1.kind), .int .i64 ((pF s).1.n), .int .i64 ((pF s).1.e), .str ((pF s).1.s), (pF s).1.namesA, (pF s).1.itemsA, .int .i64 ((pC s).1)]])) (v' := .tup [.agg (rEv s).elv, .int .i64 0]) (by kernel_rfl) (by rw [rParse_ok hb1 (by rw [hb2, hb3]; rfl) hb4]) (by kernel_rfl) (by kernel_rfl) (fr_ev (k := 60) (rEv s) 0)

end
end Go.Abs
namespace Go.Abs
noncomputable section
open Go Go.Proofs
variable {K : Nat}
section
variable {e : Ev}
theorem cParse_sm (s : List UInt8) : (cParse s).1.val.dep ≤ 4002 ∧ (cParse s).1.val.ok := by
  have h0 : (default : Ev).val.dep ≤ 4002 ∧ (default : Ev).val.ok := ⟨by show (default : Val).dep ≤ 4002; rw [def_dep]; omega, def_ok⟩
  unfold cParse
  cases h : decide (((lenN s : Nat) : Int) > 4000) with
  | true => exact h0
  | false =>
    simp only [cond_false]
    cases (qF s).2.2 || !(decide ((qF s).2.1 = [])) with
    | true => exact h0
    | false =>
      simp only [cond_false]
      cases evErr (cEv s) != 0 with
      | true => exact h0
      | false =>
        have h1 := len_ok h
        have h2 := cEv_sm h1
        exact ⟨Nat.le_trans h2.1 (by omega), h2.2⟩
end
end
end Go.Abs
