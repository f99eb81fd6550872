/- A part of the proof of LogLines: see the last text of this claim. -/
import Derived.Test.YtlehhkleemaloaaGreatDoorB3
namespace Go.Abs
noncomputable section
open Go Go.Proofs
variable {K : Nat}
theorem quo_ten {u : Nat} (b : Bool) (t : TypeId) (h : u ≤ 9223372036854775807) (hp : Heap) : keep hp (binA (Cg K) t b .quo (.int .i64 ((u : Nat) : Int)) (.int .i64 10)) = some (.int .i64 ((u / 10 : Nat) : Int), hp) := by
  show keep hp (some (AV.int .i64 (wrapF .i64 ((u / 10 : Nat) : Int)))) = _
  rw [wrap_in (inR64_nat (by omega))]; rfl
theorem quo_neg {u : Nat} (b : Bool) (t : TypeId) (h : u ≤ 9223372036854775808) (hp : Heap) : keep hp (binA (Cg K) t b .quo (.int .i64 (-((u : Nat) : Int))) (.int .i64 10)) = some (.int .i64 (-((u / 10 : Nat) : Int)), hp) := by
  have e : Int.tdiv (-((u : Nat) : Int)) 10 = -((u / 10 : Nat) : Int) := by rw [Int.neg_tdiv]; rfl
  show keep hp (some (AV.int .i64 (wrapF .i64 (Int.tdiv (-((u : Nat) : Int)) 10)))) = _
  rw [e, wrap_in (inR64_of (by omega) (by omega))]; rfl
theorem rem_neg {u : Nat} (b : Bool) (t : TypeId) (hp : Heap) : keep hp (binA (Cg K) t b .rem (.int .i64 (-((u : Nat) : Int))) (.int .i64 10)) = some (.int .i64 (-((u % 10 : Nat) : Int)), hp) := by
  have e : Int.tmod (-((u : Nat) : Int)) 10 = -((u % 10 : Nat) : Int) := by rw [Int.neg_tmod]; rfl
  show keep hp (some (AV.int .i64 (Int.tmod (-((u : Nat) : Int)) 10))) = _
  rw [e]; rfl
theorem neg_nat {u : Nat} (h : u ≤ 9223372036854775807) (hp : Heap) : keep hp (unA .neg (.int .i64 (-((u : Nat) : Int)))) = some (.int .i64 ((u : Nat) : Int), hp) := by
  show keep hp (some (AV.int .i64 (wrapF .i64 (0 - -((u : Nat) : Int))))) = _
  rw [show (0 - -((u : Nat) : Int)) = ((u : Nat) : Int) by omega, wrap_in (inR64_nat h)]; rfl
theorem digit_c : ∀ {d : Nat} (_ : d < 10) (hp : Heap), keep hp (opSlice (Cg K) hp 9 (.str [48, 49, 50, 51, 52, 53, 54, 55, 56, 57]) (some (.int .i64 ((d : Nat) : Int))) (some (.int .i64 (wrapF .i64 (((d : Nat) : Int) + 1)))) none) = some (.str [UInt8.ofNat (48 + d)], hp)
  | 0, _, hp => by kernel_rfl
  | 1, _, hp => by kernel_rfl
  | 2, _, hp => by kernel_rfl
  | 3, _, hp => by kernel_rfl
  | 4, _, hp => by kernel_rfl
  | 5, _, hp => by kernel_rfl
  | 6, _, hp => by kernel_rfl
  | 7, _, hp => by kernel_rfl
  | 8, _, hp => by kernel_rfl
  | 9, _, hp => by kernel_rfl
  | d + 10, h, hp => by omega
theorem dig_lt {u i : Nat} (hu : u ≤ 9223372036854775807) (h : (((u / 10 ^ i / 10 : Nat) : Int) == 0) = false) : i < 20 := by
  have h : u / 10 ^ i / 10 ≠ 0 := by
    intro e; rw [e] at h; cases h
  rw [Nat.div_div_eq_div_mul, ← Nat.pow_succ] at h
  apply Decidable.byContradiction
  intro hi
  apply h
  rw [Nat.div_eq_zero_iff]
  refine .inr (Nat.lt_of_lt_of_le (Nat.lt_succ_of_le hu) ?_)
  calc 9223372036854775808 ≤ 10 ^ 20 := by decide
    _ ≤ 10 ^ (i + 1) := Nat.pow_le_pow_right (by omega) (by omega)
theorem dig_ne {u i : Nat} (h : (((u / 10 ^ i / 10 : Nat) : Int) == 0) = false) : u / 10 ^ (i + 1) ≠ 0 := by
  rw [Nat.pow_succ, ← Nat.div_div_eq_div_mul]
  intro e; rw [e] at h; cases h
theorem dig_end {u i : Nat} (h : (((u / 10 ^ i / 10 : Nat) : Int) == 0) = true) (hI : i = 0 ∨ u / 10 ^ i ≠ 0) : [UInt8.ofNat (48 + u / 10 ^ i % 10)] ++ decAcc u i = Lib.decDigits u := by
  have h : u / 10 ^ i / 10 = 0 := by generalize u / 10 ^ i / 10 = q at h ⊢; have := eq_of_beq h; omega
  rw [Nat.div_div_eq_div_mul, ← Nat.pow_succ] at h
  exact decAcc_eq i u h hI
theorem decDigits_le {u : Nat} (h : u ≤ 9223372036854775808) : (Lib.decDigits u).length ≤ 21 := by
  rcases Nat.lt_or_ge u 9223372036854775808 with h1 | h1
  · have := Lib.itoa_length_le (u : Int) (by omega) (by omega)
    rwa [Lib.itoa_nonneg] at this
  · have : u = 9223372036854775808 := by omega
    subst this
    have := Lib.itoa_length_le (-((9223372036854775808 : Nat) : Int)) (by omega) (by omega)
    rw [Lib.itoa_neg _ (by omega), List.length_cons] at this
    omega
theorem decAcc_len (u : Nat) : ∀ i, (decAcc u i).length = i
  | 0 => rfl
  | i + 1 => by rw [decAcc, List.length_cons, decAcc_len u i]
set_option maxRecDepth 20000 in
theorem digPos_c {n : Nat}  (hn : 1 ≤ n) (u : Nat) (hu : u ≤ 9223372036854775807) (hK : big ≤ K)  (h : Heap) : (fns (Cg K) n).call 34 [.int .i64 ((u : Nat) : Int)] h none = some (.val (.str (Lib.decDigits u)) h none) := by
  obtain ⟨m, rfl⟩ : ∃ m, n = m + 1 := ⟨n - 1, by omega⟩
  have hlK : 20 < (Cg K).loops := by rw [loops_eq]; unfold big at hK; omega
  refine pureq (C := Cg K) (F := fns (Cg K) m) (fn := Tryz.f34) (c := bodyOf Tryz.f34) (by kernel_rfl) (by kernel_rfl) (by kernel_rfl) (by kernel_rfl) (by kernel_rfl) (by kernel_rfl) (by kernel_rfl) ?_ h
  refine W.seq ?_
  refine W.region ?_
  refine WO.fin (by kernel_rfl) ?_
  refine W.seq ?_
  refine W.seq ?_
  refine W.region ?_
  refine WO.fin (by kernel_rfl) ?_
  have hb1 : (decide (((u : Nat) : Int) < 0)) = false := (decide_eq_false (by omega))
  refine W.sub 5 hb1 (by kernel_rfl) ?_
  refine W.cond false (by kernel_rfl) (fun h => by cases h) (fun _ => ?_)
  refine W.skip ?_
  refine W.seq ?_
  refine W.region ?_
  refine WO.fin (by kernel_rfl) ?_
  refine W.block ?_
  refine W.loopc (len := 20) (fun i t => (S 35 [some (.int .i64 ((u / 10 ^ i : Nat) : Int)), none, (t.g 2), some (.str (decAcc u i)), some (.int .i64 ((u : Nat) : Int)), some (.bool false), none, none, none, none, none, none, none, none, none, none, none, none, none, none, none, none, (t.g 22), (t.g 23), (t.g 24), (t.g 25), (t.g 26), (t.g 27), (t.g 28), (t.g 29), (t.g 30), (t.g 31), (t.g 32), (t.g 33), (t.g 34)] (hpL []))) (fun i t => (i = 0 ∨ u / 10 ^ i ≠ 0)) hlK ?_ ?_ ?_
  · refine Told.put 0 (congrArg (fun k : Nat => AV.int .i64 ((k : Nat) : Int)) (by simp : u = u / 10 ^ 0)) (by kernel_rfl) ?_; exact Told.k (by kernel_rfl)
  · exact .inl rfl
  · intro i2 t2 hi2 hI2
    refine W.block ?_
    refine W.seq ?_
    refine W.region ?_
    refine WO.adv 5 (by kernel_rfl) ?_
    refine WO.opc (digit_c (K := K) (d := ((u / 10 ^ i2) % 10)) (Nat.mod_lt _ (by omega))) (by kernel_rfl) ?_
    refine WO.adv 1 (by kernel_rfl) ?_
    refine WO.opc (str_add (K := K) (x := [UInt8.ofNat (48 + (u / 10 ^ i2) % 10)]) (y := (decAcc u i2)) false 9 (by have := decAcc_len u i2; have := (show i2 ≤ 20 from hi2); simp only [List.length_append, List.length_cons, List.length_nil]; omega)) (by kernel_rfl) ?_
    refine WO.fin (by kernel_rfl) ?_
    refine W.seq ?_
    refine W.region ?_
    refine WO.adv 1 (by kernel_rfl) ?_
    refine WO.opc (quo_ten (K := K) (u := (u / 10 ^ i2)) true 3 (Nat.le_trans (Nat.div_le_self _ _) hu)) (by kernel_rfl) ?_
    refine WO.fin (by kernel_rfl) ?_
    refine W.seq ?_
    refine W.region ?_
    refine WO.fin (by kernel_rfl) ?_
    refine W.cond ((((u / 10 ^ i2) / 10 : Nat) : Int) == 0) (by kernel_rfl) (fun hb3 => ?_) (fun hb3 => ?_)
    · refine W.sub 33 hb3 (by kernel_rfl) ?_
      refine W.seq ?_
      refine W.region ?_
      refine WO.fin (by kernel_rfl) ?_
      refine W.ret ?_
      exact RetQ.k (v' := .str ([UInt8.ofNat (48 + (u / 10 ^ i2) % 10)] ++ (decAcc u i2))) (by rw [dig_end hb3 hI2]) (by kernel_rfl) (by kernel_rfl)
    · refine W.sub 33 hb3 (by kernel_rfl) ?_
      refine W.skip ?_
      have hlt : i2 < 20 := (dig_lt hu hb3)
      refine ⟨hlt, ?_, ?_⟩
      · exact .inr (dig_ne hb3)
      · refine Told.put 0 (congrArg (fun k : Nat => AV.int .i64 ((k : Nat) : Int)) (by rw [Nat.pow_succ, ← Nat.div_div_eq_div_mul] : u / 10 ^ i2 / 10 = u / 10 ^ (i2 + 1))) (by kernel_rfl) ?_
        exact Told.k (by kernel_rfl)

theorem dig_big {u : Nat} (h : 10 ≤ u) : ([45] ++ Lib.decDigits (u / 10)) ++ Lib.decDigits (u % 10) = 45 :: Lib.decDigits u := by
  rw [Lib.decDigits.eq_def u, dif_neg (by omega), Lib.decDigits.eq_def (u % 10), dif_pos (Nat.mod_lt _ (by omega))]; rfl
set_option maxRecDepth 20000 in
theorem digNeg_c {n : Nat}  (hn : 2 ≤ n) (u : Nat) (h1 : 1 ≤ u) (hu : u ≤ 9223372036854775808) (hK : big ≤ K)  (h : Heap) : (fns (Cg K) n).call 34 [.int .i64 (-((u : Nat) : Int))] h none = some (.val (.str (45 :: Lib.decDigits u)) h none) := by
  obtain ⟨m, rfl⟩ : ∃ m, n = m + 1 := ⟨n - 1, by omega⟩
  refine pureq (C := Cg K) (F := fns (Cg K) m) (fn := Tryz.f34) (c := bodyOf Tryz.f34) (by kernel_rfl) (by kernel_rfl) (by kernel_rfl) (by kernel_rfl) (by kernel_rfl) (by kernel_rfl) (by kernel_rfl) ?_ h
  refine W.seq ?_
  refine W.region ?_
  refine WO.fin (by kernel_rfl) ?_
  refine W.seq ?_
  refine W.seq ?_
  refine W.region ?_
  refine WO.fin (by kernel_rfl) ?_
  have hb1 : (decide ((-((u : Nat) : Int)) < 0)) = true := (decide_eq_true (by omega))
  refine W.sub 5 hb1 (by kernel_rfl) ?_
  refine W.cond true (by kernel_rfl) (fun _ => ?_) (fun h => by cases h)
  refine W.seq ?_
  refine W.seq ?_
  refine W.region ?_
  refine WO.fin (by kernel_rfl) ?_
  refine W.cond (decide ((-((u : Nat) : Int)) > (-10))) (by kernel_rfl) (fun hb2 => ?_) (fun hb2 => ?_)
  · refine W.sub 7 hb2 (by kernel_rfl) ?_
    refine W.seq ?_
    refine W.region ?_
    refine WO.adv 1 (by kernel_rfl) ?_
    refine WO.opc (neg_nat (u := u) (by have := of_decide_eq_true hb2; omega)) (by kernel_rfl) ?_
    refine WO.callp (by kernel_rfl) (digPos_c (n := m) (by omega) u (by have := of_decide_eq_true hb2; omega) hK _) ?_
    refine WO.opc (str_add (K := K) (x := [45]) (y := (Lib.decDigits u)) true 9 (by have := decDigits_le (u := u) (by omega); simp only [List.length_append, List.length_cons, List.length_nil]; omega)) (by kernel_rfl) ?_
    refine WO.fin (by kernel_rfl) ?_
    refine W.ret ?_
    exact RetQ.k (v' := .str ([45] ++ (Lib.decDigits u))) (by rfl) (by kernel_rfl) (by kernel_rfl)
  · refine W.sub 7 hb2 (by kernel_rfl) ?_
    refine W.skip ?_
    refine W.seq ?_
    refine W.region ?_
    refine WO.adv 1 (by kernel_rfl) ?_
    refine WO.opc (quo_neg (K := K) (u := u) true 3 (hu)) (by kernel_rfl) ?_
    refine WO.opc (neg_nat (u := (u / 10)) (by have := of_decide_eq_false hb2; omega)) (by kernel_rfl) ?_
    refine WO.callp (by kernel_rfl) (digPos_c (n := m) (by omega) (u / 10) (by have := of_decide_eq_false hb2; omega) hK _) ?_
    refine WO.opc (str_add (K := K) (x := [45]) (y := (Lib.decDigits (u / 10))) true 9 (by have := decDigits_le (u := (u / 10)) (by omega); simp only [List.length_append, List.length_cons, List.length_nil]; omega)) (by kernel_rfl) ?_
    refine WO.adv 1 (by kernel_rfl) ?_
    refine WO.opc (rem_neg (K := K) (u := u) true 3) (by kernel_rfl) ?_
    refine WO.opc (neg_nat (u := (u % 10)) (by have := of_decide_eq_false hb2; omega)) (by kernel_rfl) ?_
    refine WO.callp (by kernel_rfl) (digPos_c (n := m) (by omega) (u % 10) (by have := of_decide_eq_false hb2; omega) hK _) ?_
    refine WO.opc (str_add (K := K) (x := ([45] ++ (Lib.decDigits (u / 10)))) (y := (Lib.decDigits (u % 10))) false 9 (by have := decDigits_le (u := (u / 10)) (by omega); have := decDigits_le (u := (u % 10)) (by omega); simp only [List.length_append, List.length_cons, List.length_nil]; omega)) (by kernel_rfl) ?_
    refine WO.fin (by kernel_rfl) ?_
    refine W.ret ?_
    exact RetQ.k (v' := .str (([45] ++ (Lib.decDigits (u / 10))) ++ (Lib.decDigits (u % 10)))) (by rw [dig_big (by have := of_decide_eq_false hb2; omega)]) (by kernel_rfl) (by kernel_rfl)

theorem digits_c {n : Nat} (hn : 2 ≤ n) {x : Int} (hx : inR64 x = true) (hK : big ≤ K) (h : Heap) : (fns (Cg K) n).call 34 [.int .i64 x] h none = some (.val (.str (Lib.itoa x)) h none) := by
  have hr := inR64_le hx
  rcases Int.lt_or_le x 0 with hl | hl
  · obtain ⟨u, rfl⟩ : ∃ u : Nat, x = -(u : Int) := ⟨x.natAbs, by omega⟩
    rw [Lib.itoa_neg u (by omega)]
    exact digNeg_c hn u (by omega) (by omega) hK h
  · obtain ⟨u, rfl⟩ : ∃ u : Nat, x = u := ⟨x.toNat, by omega⟩
    rw [Lib.itoa_nonneg]
    exact digPos_c (by omega) u (by omega) hK h
set_option maxRecDepth 20000 in
theorem refText_c {n : Nat}  (hn : 3 ≤ n) (s : List UInt8) (hl : s.length ≤ 1000000000000) (hK : big ≤ K)  (h : Heap) : (fns (Cg K) n).call 35 [.str s] h none = some (.val (.str (txt s)) h none) := by
  obtain ⟨m, rfl⟩ : ∃ m, n = m + 1 := ⟨n - 1, by omega⟩
  refine pureq (C := Cg K) (F := fns (Cg K) m) (fn := Tryz.f35) (c := bodyOf Tryz.f35) (by kernel_rfl) (by kernel_rfl) (by kernel_rfl) (by kernel_rfl) (by kernel_rfl) (by kernel_rfl) (by kernel_rfl) ?_ h
  refine W.seq ?_
  refine W.region ?_
  refine WO.fin (by kernel_rfl) ?_
  refine W.seq ?_
  refine W.region ?_
  refine WO.adv 2 (by kernel_rfl) ?_
  refine WO.callp (by kernel_rfl) (digits_c (n := m) (by omega) (x := ((lenN s : Nat) : Int)) (inR64_nat (n := lenN s) (by rw [lenN_eq]; omega)) hK _) ?_
  refine WO.opc (str_add (K := K) (x := (Lib.itoa ((lenN s : Nat) : Int))) (y := [58]) true 9 (by have := itoa_le (inR64_nat (n := lenN s) (by rw [lenN_eq]; omega)); simp only [List.length_append, List.length_cons, List.length_nil]; omega)) (by kernel_rfl) ?_
  refine WO.adv 1 (by kernel_rfl) ?_
  refine WO.opc (str_add (K := K) (x := ((Lib.itoa ((lenN s : Nat) : Int)) ++ [58])) (y := s) false 9 (by have := itoa_le (inR64_nat (n := lenN s) (by rw [lenN_eq]; omega)); simp only [List.length_append, List.length_cons, List.length_nil]; omega)) (by kernel_rfl) ?_
  refine WO.fin (by kernel_rfl) ?_
  refine W.ret ?_
  exact RetQ.k (v' := .str (((Lib.itoa ((lenN s : Nat) : Int)) ++ [58]) ++ s)) (by rfl) (by kernel_rfl) (by kernel_rfl)

theorem name_len {v : Val} (hs : v.sm) (i : Nat) : (v.names.getD i []).length ≤ 1000000000000 := by
  rw [List.getD_eq_getElem?_getD]
  rcases Nat.lt_or_ge i v.names.length with h | h
  · rw [List.getElem?_eq_getElem h, Option.getD_some]
    have := (sm_head hs).2.2.2.2.2 _ (List.getElem_mem h)
    omega
  · rw [List.getElem?_eq_none h]; simp
theorem name_txt {v : Val} (hs : v.sm) (i : Nat) : (txt (v.names.getD i [])).length ≤ 222 := by
  rw [List.getD_eq_getElem?_getD]
  rcases Nat.lt_or_ge i v.names.length with h | h
  · rw [List.getElem?_eq_getElem h, Option.getD_some]
    have := (sm_head hs).2.2.2.2.2 _ (List.getElem_mem h)
    have := txt_len (s := v.names[i]) (by omega)
    omega
  · rw [List.getElem?_eq_none h, Option.getD_none]
    have := txt_len (s := []) (by simp)
    simp at this
    omega
set_option maxRecDepth 20000 in
theorem valueText_c1 {n : Nat}  (hn : 4 ≤ n) (v : Val) (hdp : v.dep ≤ 62) (hv : v.ok) (hs : v.sm) (hc : v.cnt ≤ 120) (hK : big ≤ K) (hrec0 : ∀ m, m + 1 = n → ∀ i, i < v.items.length → ∀ h, (fns (Cg K) m).call 36 [.agg (v.items.getD i default).six] h none = some (.val (.str (valText (v.items.getD i default))) h none)) (h : Heap) : (fns (Cg K) n).call 36 [.agg v.six] h none = some (.val (.str (valText v)) h none) := by
  obtain ⟨m, rfl⟩ : ∃ m, n = m + 1 := ⟨n - 1, by omega⟩
  have hlt := ok_items hv
  have hlen : v.items.length ≤ 9223372036854775807 := by unfold big at hlt; omega
  have hlK : v.items.length < (Cg K).loops := by rw [loops_eq]; omega
  have hlt1 := ok_names hv
  have hlen1 : v.names.length ≤ 9223372036854775807 := by unfold big at hlt1; omega
  have hlK1 : v.names.length < (Cg K).loops := by rw [loops_eq]; omega
  have hrec := hrec0 m rfl
  clear hrec0
  refine pureq (C := Cg K) (F := fns (Cg K) m) (fn := Tryz.f36) (c := bodyOf Tryz.f36) (by kernel_rfl) (by kernel_rfl) (by kernel_rfl) (noL (aggSix _) rfl) (by kernel_rfl) (by kernel_rfl) (by kernel_rfl) ?_ h
  refine W.seq ?_
  refine W.region ?_
  refine WO.fin (by kernel_rfl) ?_
  refine W.seq ?_
  refine W.drawn2 (by kernel_rfl) ?_
  refine WE.adv (j' := 2) 2 (by kernel_rfl) (by kernel_rfl) ?_
  refine WE.callp (by kernel_rfl) (by kernel_rfl) (digits_c (n := m) (by omega) (x := v.kind) (inR64_num (sm_head hs).1) hK _) ?_
  refine WE.opq (str_add (K := K) (x := [118]) (y := (Lib.itoa v.kind)) true 9 (by have := itoa_le (inR64_num (sm_head hs).1); simp only [List.length_append, List.length_cons, List.length_nil]; omega)) (by kernel_rfl) (by kernel_rfl) ?_
  refine WE.opq (str_add (K := K) (x := ([118] ++ (Lib.itoa v.kind))) (y := [44]) true 9 (by have := itoa_le (inR64_num (sm_head hs).1); simp only [List.length_append, List.length_cons, List.length_nil]; omega)) (by kernel_rfl) (by kernel_rfl) ?_
  refine WE.adv (j' := 7) 2 (by kernel_rfl) (by kernel_rfl) ?_
  refine WE.callp (by kernel_rfl) (by kernel_rfl) (digits_c (n := m) (by omega) (x := v.n) (inR64_num (sm_head hs).2.1) hK _) ?_
  refine WE.opq (str_add (K := K) (x := (([118] ++ (Lib.itoa v.kind)) ++ [44])) (y := (Lib.itoa v.n)) false 9 (by have := itoa_le (inR64_num (sm_head hs).1); have := itoa_le (inR64_num (sm_head hs).2.1); simp only [List.length_append, List.length_cons, List.length_nil]; omega)) (by kernel_rfl) (by kernel_rfl) ?_
  refine WE.opq (str_add (K := K) (x := ((([118] ++ (Lib.itoa v.kind)) ++ [44]) ++ (Lib.itoa v.n))) (y := [44]) true 9 (by have := itoa_le (inR64_num (sm_head hs).1); have := itoa_le (inR64_num (sm_head hs).2.1); simp only [List.length_append, List.length_cons, List.length_nil]; omega)) (by kernel_rfl) (by kernel_rfl) ?_
  refine WE.adv (j' := 12) 2 (by kernel_rfl) (by kernel_rfl) ?_
  refine WE.callp (by kernel_rfl) (by kernel_rfl) (digits_c (n := m) (by omega) (x := v.e) (inR64_num (sm_head hs).2.2.1) hK _) ?_
  refine WE.opq (str_add (K := K) (x := (((([118] ++ (Lib.itoa v.kind)) ++ [44]) ++ (Lib.itoa v.n)) ++ [44])) (y := (Lib.itoa v.e)) false 9 (by have := itoa_le (inR64_num (sm_head hs).1); have := itoa_le (inR64_num (sm_head hs).2.1); have := itoa_le (inR64_num (sm_head hs).2.2.1); simp only [List.length_append, List.length_cons, List.length_nil]; omega)) (by kernel_rfl) (by kernel_rfl) ?_
  refine WE.opq (str_add (K := K) (x := ((((([118] ++ (Lib.itoa v.kind)) ++ [44]) ++ (Lib.itoa v.n)) ++ [44]) ++ (Lib.itoa v.e))) (y := [44]) true 9 (by have := itoa_le (inR64_num (sm_head hs).1); have := itoa_le (inR64_num (sm_head hs).2.1); have := itoa_le (inR64_num (sm_head hs).2.2.1); simp only [List.length_append, List.length_cons, List.length_nil]; omega)) (by kernel_rfl) (by kernel_rfl) ?_
  refine WE.adv (j' := 17) 2 (by kernel_rfl) (by kernel_rfl) ?_
  refine WE.callp (by kernel_rfl) (by kernel_rfl) (refText_c (n := m) (by omega) v.s (by have := (sm_head hs).2.2.2.1; omega) hK _) ?_
  refine WE.opq (str_add (K := K) (x := (((((([118] ++ (Lib.itoa v.kind)) ++ [44]) ++ (Lib.itoa v.n)) ++ [44]) ++ (Lib.itoa v.e)) ++ [44])) (y := (txt v.s)) false 9 (by have := itoa_le (inR64_num (sm_head hs).1); have := itoa_le (inR64_num (sm_head hs).2.1); have := itoa_le (inR64_num (sm_head hs).2.2.1); have := txt_len (s := v.s) (by have := (sm_head hs).2.2.2.1; omega); have := (sm_head hs).2.2.2.1; simp only [List.length_append, List.length_cons, List.length_nil]; omega)) (by kernel_rfl) (by kernel_rfl) ?_
  refine WE.opq (str_add (K := K) (x := ((((((([118] ++ (Lib.itoa v.kind)) ++ [44]) ++ (Lib.itoa v.n)) ++ [44]) ++ (Lib.itoa v.e)) ++ [44]) ++ (txt v.s))) (y := [44]) true 9 (by have := itoa_le (inR64_num (sm_head hs).1); have := itoa_le (inR64_num (sm_head hs).2.1); have := itoa_le (inR64_num (sm_head hs).2.2.1); have := txt_len (s := v.s) (by have := (sm_head hs).2.2.2.1; omega); have := (sm_head hs).2.2.2.1; simp only [List.length_append, List.length_cons, List.length_nil]; omega)) (by kernel_rfl) (by kernel_rfl) ?_
  refine WE.adv (j' := 22) 2 (by kernel_rfl) (by kernel_rfl) ?_
  refine WE.opq (fun h => names_len (K := K) (h := h) (v := v)) (by kernel_rfl) (by kernel_rfl) ?_
  refine WE.callp (by kernel_rfl) (by kernel_rfl) (digits_c (n := m) (by omega) (x := ((v.names.length : Nat) : Int)) (inR64_nat (n := v.names.length) (by have := (sm_head hs).2.2.2.2.1; omega)) hK _) ?_
  refine WE.opq (str_add (K := K) (x := (((((((([118] ++ (Lib.itoa v.kind)) ++ [44]) ++ (Lib.itoa v.n)) ++ [44]) ++ (Lib.itoa v.e)) ++ [44]) ++ (txt v.s)) ++ [44])) (y := (Lib.itoa ((v.names.length : Nat) : Int))) false 9 (by have := itoa_le (inR64_num (sm_head hs).1); have := itoa_le (inR64_num (sm_head hs).2.1); have := itoa_le (inR64_num (sm_head hs).2.2.1); have := txt_len (s := v.s) (by have := (sm_head hs).2.2.2.1; omega); have := (sm_head hs).2.2.2.1; have := itoa_le (inR64_nat (n := v.names.length) (by have := (sm_head hs).2.2.2.2.1; omega)); simp only [List.length_append, List.length_cons, List.length_nil]; omega)) (by kernel_rfl) (by kernel_rfl) ?_
  refine WE.finr (id := 0) (k := 5) (B := bk 0 35 true 0 v.six) (six_beq hdp) (by kernel_rfl) (by kernel_rfl) ?_
  refine W.seq ?_
  refine W.seq ?_
  refine W.region ?_
  refine WO.fin (by kernel_rfl) ?_
  refine W.block ?_
  refine W.loopc (len := v.names.length) (fun i t => (S 71 ((some (.agg v.six)) :: (some (.ptrO 0 0)) :: (some (.str [])) :: (some (.str (headT v ++ namesText (v.names.take i)))) :: (some (.int .i64 ((i : Nat) : Int))) :: none :: (some (.ptrO 0 0)) :: (some (.int .i64 v.kind)) :: (some (.str (Lib.itoa v.kind))) :: (some (.str ([118] ++ (Lib.itoa v.kind)))) :: (some (.str (([118] ++ (Lib.itoa v.kind)) ++ [44]))) :: (some (.ptrO 0 1)) :: (some (.int .i64 v.n)) :: (some (.str (Lib.itoa v.n))) :: (some (.str ((([118] ++ (Lib.itoa v.kind)) ++ [44]) ++ (Lib.itoa v.n)))) :: (some (.str (((([118] ++ (Lib.itoa v.kind)) ++ [44]) ++ (Lib.itoa v.n)) ++ [44]))) :: (some (.ptrO 0 2)) :: (some (.int .i64 v.e)) :: (some (.str (Lib.itoa v.e))) :: (some (.str ((((([118] ++ (Lib.itoa v.kind)) ++ [44]) ++ (Lib.itoa v.n)) ++ [44]) ++ (Lib.itoa v.e)))) :: (some (.str (((((([118] ++ (Lib.itoa v.kind)) ++ [44]) ++ (Lib.itoa v.n)) ++ [44]) ++ (Lib.itoa v.e)) ++ [44]))) :: (some (.ptrO 0 3)) :: (some (.str v.s)) :: (some (.str (txt v.s))) :: (some (.str ((((((([118] ++ (Lib.itoa v.kind)) ++ [44]) ++ (Lib.itoa v.n)) ++ [44]) ++ (Lib.itoa v.e)) ++ [44]) ++ (txt v.s)))) :: (some (.str (((((((([118] ++ (Lib.itoa v.kind)) ++ [44]) ++ (Lib.itoa v.n)) ++ [44]) ++ (Lib.itoa v.e)) ++ [44]) ++ (txt v.s)) ++ [44]))) :: (some (.ptrO 0 4)) :: (some (v.namesA)) :: (some (.int .i64 ((v.names.length : Nat) : Int))) :: (some (.str (Lib.itoa ((v.names.length : Nat) : Int)))) :: (some (.str ((((((((([118] ++ (Lib.itoa v.kind)) ++ [44]) ++ (Lib.itoa v.n)) ++ [44]) ++ (Lib.itoa v.e)) ++ [44]) ++ (txt v.s)) ++ [44]) ++ (Lib.itoa ((v.names.length : Nat) : Int))))) :: (t.g 31) :: (t.g 32) :: (t.g 33) :: (t.g 34) :: (t.g 35) :: (t.g 36) :: (t.g 37) :: (t.g 38) :: (t.g 39) :: (t.g 40) :: (t.g 41) :: (t.g 42) :: (t.g 43) :: (t.g 44) :: (t.g 45) :: (t.g 46) :: none :: none :: none :: none :: none :: none :: none :: none :: none :: none :: none :: none :: none :: none :: none :: none :: none :: none :: none :: none :: none :: none :: none :: none :: []) (hpL [bk 0 35 true 0 v.six]))) (fun i t => (True)) hlK1 ?_ ?_ ?_
  · refine Told.put 3 (congrArg AV.str (show _ = headT v ++ namesText (v.names.take 0) by rw [List.take_zero, namesText, List.append_nil])) (by kernel_rfl) ?_; exact Told.k (by kernel_rfl)
  · trivial
  · intro i1 t1 hi1 hI1
    refine W.seq ?_
    refine W.seq ?_
    refine W.region ?_
    refine WO.adv 3 (by kernel_rfl) ?_
    refine WO.opc (fun h => names_len (K := K) (h := h) (v := v)) (by kernel_rfl) ?_
    refine WO.fin (by kernel_rfl) ?_
    refine W.cond (decide (((i1 : Nat) : Int) < ((v.names.length : Nat) : Int))) (by kernel_rfl) (fun hb2 => ?_) (fun hb2 => ?_)
    · refine W.sub 35 hb2 (by kernel_rfl) ?_
      refine W.skip ?_
      refine W.seq ?_
      refine W.block ?_
      refine W.region ?_
      refine WO.adv 1 (by kernel_rfl) ?_
      refine WO.opc (str_add (K := K) (x := (headT v ++ namesText (v.names.take i1))) (y := [44]) true 9 (by have := headT_len hs; have := names_take_len hs i1; simp only [List.length_append, List.length_cons, List.length_nil]; omega)) (by kernel_rfl) ?_
      refine WO.adv 3 (by kernel_rfl) ?_
      refine WO.opc (fun h => names_at (K := K) (h := h) (v := v) (lt_of_dec hb2)) (by kernel_rfl) ?_
      refine WO.opc (fun h => name_get (K := K) (h := h) (v := v) (lt_of_dec hb2)) (by kernel_rfl) ?_
      refine WO.callp (by kernel_rfl) (refText_c (n := m) (by omega) (v.names.getD i1 []) (name_len hs i1) hK _) ?_
      refine WO.opc (str_add (K := K) (x := ((headT v ++ namesText (v.names.take i1)) ++ [44])) (y := (txt (v.names.getD i1 []))) false 9 (by have := headT_len hs; have := names_take_len hs i1; have := name_txt hs i1; simp only [List.length_append, List.length_cons, List.length_nil]; omega)) (by kernel_rfl) ?_
      refine WO.fin (by kernel_rfl) ?_
      refine W.region ?_
      refine WO.fin (by kernel_rfl) ?_
      have hlt : i1 < v.names.length := ((lt_of_dec hb2))
      refine ⟨hlt, ?_, ?_⟩
      · trivial
      · refine Told.put 4 (wrapA hlt hlen1) (by kernel_rfl) ?_
        refine Told.put 3 (congrArg AV.str (show (((headT v ++ namesText (v.names.take i1)) ++ [44]) ++ (txt (v.names.getD i1 []))) = headT v ++ namesText (v.names.take (i1 + 1)) by rw [namesText_succ _ _ hlt]; simp only [List.append_assoc])) (by kernel_rfl) ?_
        exact Told.k (by kernel_rfl)
    · refine W.sub 35 hb2 (by kernel_rfl) ?_
      refine W.exit ?_
      refine blockQ ?_
      refine W.seq ?_
      refine W.region ?_
      refine WO.adv 1 (by kernel_rfl) ?_
      refine WO.opc (str_add (K := K) (x := (headT v ++ namesText (v.names.take i1))) (y := [44]) true 9 (by have := headT_len hs; have := names_take_len hs i1; simp only [List.length_append, List.length_cons, List.length_nil]; omega)) (by kernel_rfl) ?_
      refine WO.adv 2 (by kernel_rfl) ?_
      refine WO.opc (fun h => items_len (K := K) (h := h) (v := v)) (by kernel_rfl) ?_
      refine WO.callp (by kernel_rfl) (digits_c (n := m) (by omega) (x := ((v.items.length : Nat) : Int)) (inR64_nat (n := v.items.length) (by have := ok_items hv; unfold big at this; omega)) hK _) ?_
      refine WO.opc (str_add (K := K) (x := ((headT v ++ namesText (v.names.take i1)) ++ [44])) (y := (Lib.itoa ((v.items.length : Nat) : Int))) false 9 (by have := headT_len hs; have := names_take_len hs i1; have := itoa_le (inR64_nat (n := v.items.length) (by have := ok_items hv; unfold big at this; omega)); simp only [List.length_append, List.length_cons, List.length_nil]; omega)) (by kernel_rfl) ?_
      refine WO.fin (by kernel_rfl) ?_
      refine W.seq ?_
      refine W.seq ?_
      refine W.region ?_
      refine WO.fin (by kernel_rfl) ?_
      refine W.block ?_
      refine W.loopc (len := v.items.length) (fun i t => (S 71 ((some (.agg v.six)) :: (some (.ptrO 0 0)) :: (some (.str [])) :: (some (.str (midT v ++ itemsText (v.items.take i)))) :: (some (.int .i64 ((i1 : Nat) : Int))) :: (some (.int .i64 ((i : Nat) : Int))) :: (some (.ptrO 0 0)) :: (some (.int .i64 v.kind)) :: (some (.str (Lib.itoa v.kind))) :: (some (.str ([118] ++ (Lib.itoa v.kind)))) :: (some (.str (([118] ++ (Lib.itoa v.kind)) ++ [44]))) :: (some (.ptrO 0 1)) :: (some (.int .i64 v.n)) :: (some (.str (Lib.itoa v.n))) :: (some (.str ((([118] ++ (Lib.itoa v.kind)) ++ [44]) ++ (Lib.itoa v.n)))) :: (some (.str (((([118] ++ (Lib.itoa v.kind)) ++ [44]) ++ (Lib.itoa v.n)) ++ [44]))) :: (some (.ptrO 0 2)) :: (some (.int .i64 v.e)) :: (some (.str (Lib.itoa v.e))) :: (some (.str ((((([118] ++ (Lib.itoa v.kind)) ++ [44]) ++ (Lib.itoa v.n)) ++ [44]) ++ (Lib.itoa v.e)))) :: (some (.str (((((([118] ++ (Lib.itoa v.kind)) ++ [44]) ++ (Lib.itoa v.n)) ++ [44]) ++ (Lib.itoa v.e)) ++ [44]))) :: (some (.ptrO 0 3)) :: (some (.str v.s)) :: (some (.str (txt v.s))) :: (some (.str ((((((([118] ++ (Lib.itoa v.kind)) ++ [44]) ++ (Lib.itoa v.n)) ++ [44]) ++ (Lib.itoa v.e)) ++ [44]) ++ (txt v.s)))) :: (some (.str (((((((([118] ++ (Lib.itoa v.kind)) ++ [44]) ++ (Lib.itoa v.n)) ++ [44]) ++ (Lib.itoa v.e)) ++ [44]) ++ (txt v.s)) ++ [44]))) :: (some (.ptrO 0 4)) :: (some (v.namesA)) :: (some (.int .i64 ((v.names.length : Nat) : Int))) :: (some (.str (Lib.itoa ((v.names.length : Nat) : Int)))) :: (some (.str ((((((((([118] ++ (Lib.itoa v.kind)) ++ [44]) ++ (Lib.itoa v.n)) ++ [44]) ++ (Lib.itoa v.e)) ++ [44]) ++ (txt v.s)) ++ [44]) ++ (Lib.itoa ((v.names.length : Nat) : Int))))) :: (some (.int .i64 ((i1 : Nat) : Int))) :: (some (.ptrO 0 4)) :: (some (v.namesA)) :: (some (.int .i64 ((v.names.length : Nat) : Int))) :: (some (.bool false)) :: (t.g 36) :: (t.g 37) :: (t.g 38) :: (t.g 39) :: (t.g 40) :: (t.g 41) :: (t.g 42) :: (t.g 43) :: (t.g 44) :: (t.g 45) :: (t.g 46) :: (some (.str (headT v ++ namesText (v.names.take i1)))) :: (some (.str ((headT v ++ namesText (v.names.take i1)) ++ [44]))) :: (some (.ptrO 0 5)) :: (some (v.itemsA)) :: (some (.int .i64 ((v.items.length : Nat) : Int))) :: (some (.str (Lib.itoa ((v.items.length : Nat) : Int)))) :: (some (.str (((headT v ++ namesText (v.names.take i1)) ++ [44]) ++ (Lib.itoa ((v.items.length : Nat) : Int))))) :: (t.g 54) :: (t.g 55) :: (t.g 56) :: (t.g 57) :: (t.g 58) :: (t.g 59) :: (t.g 60) :: (t.g 61) :: (t.g 62) :: (t.g 63) :: (t.g 64) :: (t.g 65) :: (t.g 66) :: (t.g 67) :: (t.g 68) :: none :: none :: []) (hpL [bk 0 35 true 0 v.six]))) (fun i t => (True)) hlK ?_ ?_ ?_
      · refine Told.put 3 (congrArg AV.str (show (((headT v ++ namesText (v.names.take i1)) ++ [44]) ++ (Lib.itoa ((v.items.length : Nat) : Int))) = midT v ++ itemsText (v.items.take 0) by rw [List.take_zero, itemsText, List.append_nil]; unfold midT; rw [end_eq hi1 hb2, List.take_length])) (by kernel_rfl) ?_; exact Told.k (by kernel_rfl)
      · trivial
      · intro i3 t3 hi3 hI3
        refine W.seq ?_
        refine W.seq ?_
        refine W.region ?_
        refine WO.adv 3 (by kernel_rfl) ?_
        refine WO.opc (fun h => items_len (K := K) (h := h) (v := v)) (by kernel_rfl) ?_
        refine WO.fin (by kernel_rfl) ?_
        refine W.cond (decide (((i3 : Nat) : Int) < ((v.items.length : Nat) : Int))) (by kernel_rfl) (fun hb4 => ?_) (fun hb4 => ?_)
        · refine W.sub 58 hb4 (by kernel_rfl) ?_
          refine W.skip ?_
          refine W.seq ?_
          refine W.block ?_
          refine W.region ?_
          refine WO.adv 4 (by kernel_rfl) ?_
          refine WO.opc (fun h => items_at (K := K) (h := h) (v := v) (lt_of_dec hb4)) (by kernel_rfl) ?_
          refine WO.opc (fun h => item_six (K := K) (h := h) (v := v) (lt_of_dec hb4)) (by kernel_rfl) ?_
          refine WO.callp (by kernel_rfl) (hrec i3 (lt_of_dec hb4) _) ?_
          refine WO.opc (str_add (K := K) (x := (midT v ++ itemsText (v.items.take i3))) (y := (valText (v.items.getD i3 default))) false 9 (by have := midT_len hs hv; have := itemsText_take_len hs hv i3; have := cntL_take v.items i3; have := cnt_eq v; have := valText_len (sm_item hs (lt_of_dec hb4)) (ok_item hv (lt_of_dec hb4)); have := cntL_at v.items i3 (lt_of_dec hb4); simp only [List.length_append, List.length_cons, List.length_nil]; omega)) (by kernel_rfl) ?_
          refine WO.fin (by kernel_rfl) ?_
          refine W.region ?_
          refine WO.fin (by kernel_rfl) ?_
          have hlt : i3 < v.items.length := ((lt_of_dec hb4))
          refine ⟨hlt, ?_, ?_⟩
          · trivial
          · refine Told.put 5 (wrapA hlt hlen) (by kernel_rfl) ?_
            refine Told.put 3 (congrArg AV.str (show ((midT v ++ itemsText (v.items.take i3)) ++ (valText (v.items.getD i3 default))) = midT v ++ itemsText (v.items.take (i3 + 1)) by rw [itemsText_succ _ _ hlt]; simp only [List.append_assoc])) (by kernel_rfl) ?_
            exact Told.k (by kernel_rfl)
        · refine W.sub 58 hb4 (by kernel_rfl) ?_
          refine W.exit ?_
          refine blockQ ?_
          refine W.seq ?_
          refine W.region ?_
          refine WO.adv 1 (by kernel_rfl) ?_
          refine WO.opc (str_add (K := K) (x := (midT v ++ itemsText (v.items.take i3))) (y := [59]) true 9 (by have := midT_len hs hv; have := itemsText_take_len hs hv i3; have := cntL_take v.items i3; have := cnt_eq v; simp only [List.length_append, List.length_cons, List.length_nil]; omega)) (by kernel_rfl) ?_
          refine WO.fin (by kernel_rfl) ?_
          refine W.ret ?_
          exact RetQ.k (v' := .str ((midT v ++ itemsText (v.items.take i3)) ++ [59])) (by rw [valText_eq, end_eq hi3 hb4, List.take_length]) (by kernel_rfl) (by kernel_rfl)

theorem valueText_c (hK : big ≤ K) : ∀ (d : Nat) (v : Val), v.dep ≤ d → v.dep ≤ 62 → v.ok → v.sm → v.cnt ≤ 120 → ∀ n, d + 4 ≤ n → ∀ h, (fns (Cg K) n).call 36 [.agg v.six] h none = some (.val (.str (valText v)) h none) := by
  intro d
  induction d with
  | zero => intro v hd; cases v; rw [Val.dep] at hd; omega
  | succ d ih =>
    intro v hd hdp hv hs hc n hn h
    refine valueText_c1 (by omega) v hdp hv hs hc hK (fun m hm i hi h => ?_) h
    exact ih _ (by have := dep_item v hi; omega) (by have := dep_item v hi; omega) (ok_item hv hi) (sm_item hs hi) (by have := cntL_at v.items i hi; have := cnt_eq v; omega) m (by omega) h
set_option maxRecDepth 20000 in
theorem refLine_c {n : Nat} {d : Nat} (hn : d + 5 ≤ n) (e : Ev) (hd : e.val.dep ≤ d) (hdp : e.val.dep ≤ 62) (hv : e.val.ok) (he : e.sm) (hK : big ≤ K)  (h : Heap) : (fns (Cg K) n).call 12 [.agg e.elv] h none = some (.val (.str (lineT e)) h none) := by
  obtain ⟨m, rfl⟩ : ∃ m, n = m + 1 := ⟨n - 1, by omega⟩
  refine pureq (C := Cg K) (F := fns (Cg K) m) (fn := Tryz.f12) (c := bodyOf Tryz.f12) (by kernel_rfl) (by kernel_rfl) (by kernel_rfl) (noL (aggElv _) rfl) (by kernel_rfl) (by kernel_rfl) (by kernel_rfl) ?_ h
  refine W.seq ?_
  refine W.region ?_
  refine WO.fin (by kernel_rfl) ?_
  refine W.seq ?_
  refine W.drawn2 (by kernel_rfl) ?_
  refine WE.adv (j' := 2) 2 (by kernel_rfl) (by kernel_rfl) ?_
  refine WE.callp (by kernel_rfl) (by kernel_rfl) (digits_c (n := m) (by omega) (x := e.comp) (he.comp) hK _) ?_
  refine WE.opq (str_add (K := K) (x := (Lib.itoa e.comp)) (y := [32]) true 9 (by have := itoa_le (he.comp); simp only [List.length_append, List.length_cons, List.length_nil]; omega)) (by kernel_rfl) (by kernel_rfl) ?_
  refine WE.adv (j' := 6) 2 (by kernel_rfl) (by kernel_rfl) ?_
  refine WE.callp (by kernel_rfl) (by kernel_rfl) (digits_c (n := m) (by omega) (x := e.kind) (he.kind) hK _) ?_
  refine WE.opq (str_add (K := K) (x := ((Lib.itoa e.comp) ++ [32])) (y := (Lib.itoa e.kind)) false 9 (by have := itoa_le (he.comp); have := itoa_le (he.kind); simp only [List.length_append, List.length_cons, List.length_nil]; omega)) (by kernel_rfl) (by kernel_rfl) ?_
  refine WE.opq (str_add (K := K) (x := (((Lib.itoa e.comp) ++ [32]) ++ (Lib.itoa e.kind))) (y := [32]) true 9 (by have := itoa_le (he.comp); have := itoa_le (he.kind); simp only [List.length_append, List.length_cons, List.length_nil]; omega)) (by kernel_rfl) (by kernel_rfl) ?_
  refine WE.adv (j' := 11) 2 (by kernel_rfl) (by kernel_rfl) ?_
  refine WE.callp (by kernel_rfl) (by kernel_rfl) (digits_c (n := m) (by omega) (x := e.other) (he.other) hK _) ?_
  refine WE.opq (str_add (K := K) (x := ((((Lib.itoa e.comp) ++ [32]) ++ (Lib.itoa e.kind)) ++ [32])) (y := (Lib.itoa e.other)) false 9 (by have := itoa_le (he.comp); have := itoa_le (he.kind); have := itoa_le (he.other); simp only [List.length_append, List.length_cons, List.length_nil]; omega)) (by kernel_rfl) (by kernel_rfl) ?_
  refine WE.opq (str_add (K := K) (x := (((((Lib.itoa e.comp) ++ [32]) ++ (Lib.itoa e.kind)) ++ [32]) ++ (Lib.itoa e.other))) (y := [32]) true 9 (by have := itoa_le (he.comp); have := itoa_le (he.kind); have := itoa_le (he.other); simp only [List.length_append, List.length_cons, List.length_nil]; omega)) (by kernel_rfl) (by kernel_rfl) ?_
  refine WE.adv (j' := 16) 2 (by kernel_rfl) (by kernel_rfl) ?_
  refine WE.callp (by kernel_rfl) (by kernel_rfl) (refText_c (n := m) (by omega) e.text (by have := he.text; omega) hK _) ?_
  refine WE.opq (str_add (K := K) (x := ((((((Lib.itoa e.comp) ++ [32]) ++ (Lib.itoa e.kind)) ++ [32]) ++ (Lib.itoa e.other)) ++ [32])) (y := (txt e.text)) false 9 (by have := itoa_le (he.comp); have := itoa_le (he.kind); have := itoa_le (he.other); have := txt_len (s := e.text) (by have := he.text; omega); have := he.text; simp only [List.length_append, List.length_cons, List.length_nil]; omega)) (by kernel_rfl) (by kernel_rfl) ?_
  refine WE.opq (str_add (K := K) (x := (((((((Lib.itoa e.comp) ++ [32]) ++ (Lib.itoa e.kind)) ++ [32]) ++ (Lib.itoa e.other)) ++ [32]) ++ (txt e.text))) (y := [32]) true 9 (by have := itoa_le (he.comp); have := itoa_le (he.kind); have := itoa_le (he.other); have := txt_len (s := e.text) (by have := he.text; omega); have := he.text; simp only [List.length_append, List.length_cons, List.length_nil]; omega)) (by kernel_rfl) (by kernel_rfl) ?_
  refine WE.adv (j' := 21) 2 (by kernel_rfl) (by kernel_rfl) ?_
  refine WE.callp (by kernel_rfl) (by kernel_rfl) (refText_c (n := m) (by omega) e.name (by have := he.name; omega) hK _) ?_
  refine WE.opq (str_add (K := K) (x := ((((((((Lib.itoa e.comp) ++ [32]) ++ (Lib.itoa e.kind)) ++ [32]) ++ (Lib.itoa e.other)) ++ [32]) ++ (txt e.text)) ++ [32])) (y := (txt e.name)) false 9 (by have := itoa_le (he.comp); have := itoa_le (he.kind); have := itoa_le (he.other); have := txt_len (s := e.text) (by have := he.text; omega); have := he.text; have := txt_len (s := e.name) (by have := he.name; omega); have := he.name; simp only [List.length_append, List.length_cons, List.length_nil]; omega)) (by kernel_rfl) (by kernel_rfl) ?_
  refine WE.opq (str_add (K := K) (x := (((((((((Lib.itoa e.comp) ++ [32]) ++ (Lib.itoa e.kind)) ++ [32]) ++ (Lib.itoa e.other)) ++ [32]) ++ (txt e.text)) ++ [32]) ++ (txt e.name))) (y := [32]) true 9 (by have := itoa_le (he.comp); have := itoa_le (he.kind); have := itoa_le (he.other); have := txt_len (s := e.text) (by have := he.text; omega); have := he.text; have := txt_len (s := e.name) (by have := he.name; omega); have := he.name; simp only [List.length_append, List.length_cons, List.length_nil]; omega)) (by kernel_rfl) (by kernel_rfl) ?_
  refine WE.adv (j' := 26) 2 (by kernel_rfl) (by kernel_rfl) ?_
  refine WE.callp (by kernel_rfl) (by kernel_rfl) (valueText_c hK d e.val hd hdp hv he.val he.cnt m (by omega) _) ?_
  refine WE.opq (str_add (K := K) (x := ((((((((((Lib.itoa e.comp) ++ [32]) ++ (Lib.itoa e.kind)) ++ [32]) ++ (Lib.itoa e.other)) ++ [32]) ++ (txt e.text)) ++ [32]) ++ (txt e.name)) ++ [32])) (y := (valText e.val)) false 9 (by have := itoa_le (he.comp); have := itoa_le (he.kind); have := itoa_le (he.other); have := txt_len (s := e.text) (by have := he.text; omega); have := he.text; have := txt_len (s := e.name) (by have := he.name; omega); have := he.name; have := valText_len he.val hv; have := he.cnt; simp only [List.length_append, List.length_cons, List.length_nil]; omega)) (by kernel_rfl) (by kernel_rfl) ?_
  refine WE.finr (id := 0) (k := 6) (B := bk 0 37 true 0 e.elv) (elv_beq hdp) (by kernel_rfl) (by kernel_rfl) ?_
  refine W.ret ?_
  exact RetQ.k (v' := .str (((((((((((Lib.itoa e.comp) ++ [32]) ++ (Lib.itoa e.kind)) ++ [32]) ++ (Lib.itoa e.other)) ++ [32]) ++ (txt e.text)) ++ [32]) ++ (txt e.name)) ++ [32]) ++ (valText e.val))) (by rfl) (by kernel_rfl) (by kernel_rfl)

end
end Go.Abs
namespace Go.Abs
noncomputable section
open Go Go.Proofs
variable {K : Nat}
/-! ## Walks whose memory behind is not told beforehand -/
section
variable {C : Cfg} {F : Fns} {Q : Out → Prop} {ops : Array Oper} {l : List Oper} {d : Dr} {j : Nat} {pl : List Nat} {f : FuncId} {fn : Func} {c : Code} {args : List AV} {v v' : AV} {s : St}
/-- an operation that changes memory, in a drawn region -/
theorem WE.opm {y : OR} {x : AV} {h' : Heap} (hy : y = some (x, h')) (h1 : opIn C ops l d.s = some y) (hc : isC C .m l = true) (w : WE C F ops (Nat.succ j) (dropN l 1) (putD l j d x h') pl Q) : WE C F ops j l d pl Q := by
  intro hp hm
  cases l with
  | nil => cases h1
  | cons o l =>
    have hq : cls C o.op = .m := beq_cls.1 hc
    obtain ⟨hw, he⟩ := opIn_oper (F := F) h1 hy
    obtain ⟨d2, e, q⟩ := w (fun p hp' => by have := hp p hp'; omega) ⟨fun m hm' hmp => by
      rcases List.mem_cons.1 hm' with rfl | h
      · have := hp _ hmp; exact absurd this (Nat.lt_irrefl _)
      · exact hm.1 m h hmp, fun m hm' => by
      rcases List.mem_cons.1 hm' with rfl | h
      · exact Nat.lt_succ_self _
      · have := hm.2 m h; omega⟩
    refine ⟨d2, ?_, q⟩
    rw [drawOps_cons, hw]
    have hh : (d.s.set o.dst x h').h = h' := by
      unfold St.set
      cases o.dst with
      | none => rfl
      | some k => simp only; cases Nat.ble (Nat.succ k) d.s.n <;> rfl
    have hstep : drawStep C F j o d = some (.inl (putD (o :: l) j d x h')) := by
      unfold drawStep
      rw [hq]
      simp only [he, hh]
      rfl
    simp only [hstep]
    rw [dropN_eq] at e
    exact e
/-- the state behind a read of a known block -/
def putR (l : List Oper) (j : Nat) (d : Dr) (x : AV) (id : Nat) : Dr := { s := putIn l d.s x d.s.h, made := d.made, reads := (j, id) :: d.reads, ms := d.ms }
theorem WE.opr {y : OR} {x : AV} {id : Nat} {h' : Heap} (hs : d.s.h = h') (hy : y = some (x, h')) (h1 : opIn C ops l d.s = some y) (hc : isC C .l l = true) (hr : readsIn C l d.s = some id) (w : WE C F ops (Nat.succ j) (dropN l 1) (putR l j d x id) pl Q) : WE C F ops j l d pl Q := by
  subst hs
  intro hp hm
  cases l with
  | nil => cases h1
  | cons o l =>
    have hq : cls C o.op = .l := beq_cls.1 hc
    obtain ⟨hw, he⟩ := opIn_oper (F := F) h1 hy
    obtain ⟨d2, e, q⟩ := w (fun p hp' => by have := hp p hp'; omega) ⟨hm.1, fun m hm' => by have := hm.2 m hm'; omega⟩
    refine ⟨d2, ?_, q⟩
    rw [drawOps_cons, hw]
    have hr : readId C d.s.tm o.op = some id := hr
    have hstep : drawStep C F j o d = some (.inl (putR (o :: l) j d x id)) := by
      unfold drawStep
      rw [hq]
      simp only [he, hr]
      rfl
    simp only [hstep]
    rw [dropN_eq] at e
    exact e
def RetX (C : Cfg) (F : Fns) (fn : Func) (v : AV) (P : Heap → Prop) (o : Out) : Prop := ∃ h', RetN C F fn v h' o ∧ P h'
theorem RetX.k {P : Heap → Prop} {h' : Heap} (hP : P h') (hv : v = v') (hd : (s.ds, s.pn) = ([], none)) (hr : retW C fn s = some v') (he : s.h = h') : RetX C F fn v P (.ret s) := ⟨h', RetN.k hv rfl hd hr he, hP⟩
theorem RetX.kn {P : Heap → Prop} {h' : Heap} (hP : P h') (hv : v = v') (hd : (s.ds, s.pn) = ([], none)) (hr : retW C fn s = some v') (he : s.h = h') : RetX C F fn v P (.nrm s) := ⟨h', RetN.kn hv rfl hd hr he, hP⟩
theorem plainx (ho : C.own1 f = false) (hp : C.pure f = false) (hs : C.spec f args = none) (hf : C.P.funcs[f]? = some fn) (hb : fn.body = some c) (hl : Nat.ble (lenN args) fn.ntmps = true) {h : Heap} {P : Heap → Prop}
    (w : W C F c { n := fn.ntmps, tm := tmOf 0 args (fullT 12 fn.ntmps), h, ds := [], pn := none } (RetX C F fn v P)) : ∃ h', (stepF C F).call f args h none = some (.val v h' none) ∧ P h' := by
  obtain ⟨o, e, h', hr, hP⟩ := w
  exact ⟨h', plainq ho hp hs hf hb hl ⟨o, e, hr⟩, hP⟩
end
/-! ## Bytes of one's own that are appended to -/
/-- the numbers of blocks and groups lie below the next one -/
def GW (h : Heap) : Prop := ∀ j c, h.get j = some c → j < h.next ∧ c.grp < h.next
def OwnB (h : Heap) (x : AV) (s : List UInt8) : Prop :=
  (x = .nils ∧ s = []) ∨ (s ≠ [] ∧ ∃ id b, x = .slO id 0 1 s.length s.length false ∧ h.get id = some b ∧ b.cells = bytesCells s ∧ b.frz = false ∧ b.kind = .row ∧ b.el = 5 ∧ ∀ j c, h.get j = some c → c.grp = b.grp → c.el = 5)
/-- what is no row of bytes, and not block p, is as it was -/
def Kp (h h' : Heap) (p : Nat) : Prop := h.next ≤ h'.next ∧ ∀ j c, h.get j = some c → c.el ≠ 5 → j ≠ p → h'.get j = some c
theorem Kp.refl (h : Heap) (p : Nat) : Kp h h p := ⟨Nat.le_refl _, fun _ _ e _ _ => e⟩
theorem Kp.trans {h h' h'' : Heap} {p : Nat} (a : Kp h h' p) (b : Kp h' h'' p) : Kp h h'' p := ⟨Nat.le_trans a.1 b.1, fun j c e h1 h2 => b.2 j c (a.2 j c e h1 h2) h1 h2⟩
theorem GW.empty : GW Heap.empty := fun j c e => by rw [Heap.get_empty] at e; cases e
theorem GW.add {h : Heap} (W : GW h) {b : Blk} (hb : b.grp < h.next + 1) : GW (h.add b) := by
  intro j c e
  rw [Heap.get_add] at e
  rw [Heap.next_add]
  split at e
  · rename_i hj; cases e; exact ⟨by omega, hb⟩
  · have := W j c e; omega
theorem GW.new {h : Heap} (W : GW h) {el : Nat} {wh : Bool} {cs : List AV} : GW (h.new el wh cs) := W.add (Nat.lt_succ_self _)
theorem GW.set {h : Heap} (W : GW h) {id : Nat} {b c : Blk} (hb : h.get id = some b) (hc : c.grp = b.grp) : GW (h.set id c) := by
  intro j x e
  rw [get_set] at e
  rw [Heap.next_set]
  split at e
  · rename_i hj; cases e; subst hj; rw [hc]; exact W _ _ hb
  · exact W j x e
theorem bytesCells_app (s t : List UInt8) : bytesCells (s ++ t) = bytesCells s ++ bytesCells t := by rw [bytesCells_eq, bytesCells_eq, bytesCells_eq, List.map_append]
theorem bytesCells_len (s : List UInt8) : (bytesCells s).length = s.length := by rw [bytesCells_eq, List.length_map]
/-- a group's blocks may have changed, but for their group and their elements' type -/
structure Sim (g : Nat) (h h' : Heap) : Prop where
  next : h'.next = h.next
  back : ∀ j c', h'.get j = some c' → ∃ c, h.get j = some c ∧ c'.grp = c.grp ∧ c'.el = c.el
  other : ∀ j c, h.get j = some c → c.grp ≠ g → h'.get j = some c
theorem Sim.set {h : Heap} {id : Nat} {b c : Blk} (hb : h.get id = some b) (hg : c.grp = b.grp) (he : c.el = b.el) : Sim b.grp h (h.set id c) where
  next := rfl
  back := fun j x e => by
    rw [get_set] at e
    split at e
    · rename_i hj; cases e; subst hj; exact ⟨b, hb, hg, he⟩
    · exact ⟨x, e, rfl, rfl⟩
  other := fun j x e hne => by
    rw [get_set]
    split
    · rename_i hj; subst hj; rw [hb] at e; cases e; exact absurd rfl hne
    · exact e
theorem Sim.kill {h : Heap} {id g lo hi n : Nat} : Sim g h (killAll h id g lo hi n) where
  next := next_killAll ..
  back := fun j x e => by
    rw [get_killAll] at e
    split at e
    · cases hh : h.get j with
      | none => rw [hh] at e; cases e
      | some c =>
        rw [hh] at e
        cases e
        refine ⟨c, rfl, ?_, ?_⟩ <;> (unfold killB; split <;> rfl)
    · exact ⟨x, e, rfl, rfl⟩
  other := fun j x e hne => by
    rw [get_killAll]
    split
    · rw [e]; show some (killB g lo hi x) = some x; unfold killB; rw [if_neg (fun hh => hne hh.1)]
    · exact e
theorem Sim.trans {g : Nat} {a b c : Heap} (p : Sim g a b) (q : Sim g b c) : Sim g a c where
  next := q.next.trans p.next
  back := fun j x e => by
    obtain ⟨y, e1, g1, l1⟩ := q.back j x e
    obtain ⟨z, e2, g2, l2⟩ := p.back j y e1
    exact ⟨z, e2, g1.trans g2, l1.trans l2⟩
  other := fun j x e hne => q.other j x (p.other j x e hne) hne
theorem Sim.ks {h : Heap} {id id' lo hi n : Nat} {b c : Blk} (hb : h.get id = some b) (hg : c.grp = b.grp) (he : c.el = b.el) : Sim b.grp h (killAll (h.set id c) id' b.grp lo hi n) := (Sim.set hb hg he).trans Sim.kill
theorem Sim.gw {g : Nat} {h h' : Heap} (S : Sim g h h') (W : GW h) : GW h' := by
  intro j c e
  obtain ⟨c0, e0, hg, _⟩ := S.back j c e
  have := W j c0 e0
  rw [S.next, hg]; exact this
theorem cells_whole {cs : List AV} {n : Nat} (h : cs.length = n) : partN cs 0 n = some cs := by
  subst h
  unfold partN
  simp only [lenN_eq, takeN_eq, dropN_eq]
  rw [show Nat.ble (Nat.add 0 cs.length) cs.length = true from Nat.ble_eq_true_of_le (by show 0 + cs.length ≤ _; omega)]
  simp
theorem append_bytes {h : Heap} {x : AV} {s t : List UInt8} (W : GW h) (O : OwnB h x s) (hl : s.length + t.length ≤ 1000000000000) :
    ∃ x' h', builtinA (Cg K) h .append #[126, 9] [x, .str t] = some (x', h') ∧ OwnB h' x' (s ++ t) ∧ GW h' ∧ h.next ≤ h'.next ∧ ∀ j c, h.get j = some c → c.el ≠ 5 → h'.get j = some c := by
  have h0 : builtinA (Cg K) h .append #[126, 9] [x, .str t] = appendA h 5 1 1 x (.str t) := by kernel_rfl
  rw [h0]
  have hx : lenA (.str t) = some t.length := by show some (lenN t) = _; rw [lenN_eq]
  have hfs : firstA h 1 t.length (.str t) = some (bytesCells t) := by show some (bytesCells (takeN t t.length)) = _; rw [takeN_eq, List.take_length]
  unfold appendA
  rw [hx]
  simp only [hfs]
  have room : ∀ n, n ≤ 1000000000000 → roomOk n 1 = true := by
    intro n hn
    show (Nat.ble (Nat.mul n 1) 70368744177664 && Nat.ble n 4611686018427387904) = true
    rw [Bool.and_eq_true]
    exact ⟨Nat.ble_eq_true_of_le (show n * 1 ≤ _ by omega), Nat.ble_eq_true_of_le (by omega)⟩
  rcases O with ⟨rfl, rfl⟩ | ⟨hne, id, b, rfl, hb, hc, hf, hk, he, hs⟩
  · -- from nothing on
    simp only
    cases t with
    | nil => exact ⟨.nils, h, rfl, .inl ⟨rfl, rfl⟩, W, Nat.le_refl _, fun _ _ e _ => e⟩
    | cons a t =>
      rw [show Nat.beq (a :: t).length 0 = false from rfl, room _ (by simpa using hl)]
      refine ⟨_, _, rfl, .inr ⟨by simp, h.next, newBlk h.next 5 false (bytesCells (a :: t)), rfl, ?_, rfl, rfl, rfl, rfl, ?_⟩, W.new, Nat.le_succ _, ?_⟩
      · rw [get_new, if_pos rfl]
      · intro j c e hg
        rw [get_new] at e
        split at e
        · cases e; rfl
        · have := (W j c e).2; have hg : c.grp = h.next := hg; omega
      · intro j c e _
        rw [get_new, if_neg (by have := (W j c e).1; omega)]; exact e
  · have hlen : b.cells.length = s.length := by rw [hc, bytesCells_len]
    simp only
    unfold appendO
    rw [show Nat.beq 1 1 = true from rfl]
    simp only [Bool.not_true, cond_false]
    cases t with
    | nil =>
      rw [show Nat.ble (Nat.add s.length [].length) s.length = true from Nat.ble_eq_true_of_le (Nat.le_refl _)]
      simp only [cond_true]
      unfold storeAt
      rw [hb]
      simp only [hf, hk]
      rw [show Nat.ble (Nat.add (Nat.add 0 (Nat.mul s.length 1)) (lenN (bytesCells []))) (lenN b.cells) = true from Nat.ble_eq_true_of_le (by rw [lenN_eq b.cells, hlen]; show 0 + s.length * 1 + 0 ≤ _; omega)]
      have hset : ∀ o, setCells b.cells o (bytesCells []) = b.cells := fun o => setCells_nil _ _
      simp only [hset]
      -- a change of the block's count alone
      have fin : ∀ h' : Heap, Sim b.grp h h' → (∃ b', h'.get id = some b' ∧ b'.cells = b.cells ∧ b'.frz = false ∧ b'.kind = .row ∧ b'.grp = b.grp ∧ b'.el = 5) →
          OwnB h' (.slO id 0 1 (Nat.add s.length ([] : List UInt8).length) s.length false) (s ++ []) ∧ GW h' ∧ h.next ≤ h'.next ∧ ∀ j c, h.get j = some c → c.el ≠ 5 → h'.get j = some c := by
        intro h' S ⟨b', q1, q2, q3, q4, q5, q6⟩
        refine ⟨.inr ⟨by simpa using hne, id, b', by rw [List.append_nil]; rfl, q1, by rw [q2, hc, List.append_nil], q3, q4, q6, ?_⟩, S.gw W, by rw [S.next]; exact Nat.le_refl _, fun j c e h5 => S.other j c e (fun hg => h5 (hs j c e hg))⟩
        intro j c e hg
        obtain ⟨c0, e0, g0, l0⟩ := S.back j c e
        rw [l0]; exact hs j c0 e0 (by rw [← g0, hg, q5])
      cases hfk : b.forked with
      | false =>
        refine ⟨_, _, rfl, fin _ (Sim.set hb rfl rfl) ⟨{ cells := b.cells, grp := b.grp, base := b.base, forked := false, frz := false, ver := Nat.succ b.ver, el := b.el, whole := b.whole, kind := .row }, ?_, rfl, rfl, rfl, rfl, he⟩⟩
        rw [get_set, if_pos rfl]
      | true =>
        refine ⟨_, _, rfl, fin _ (Sim.ks hb rfl rfl) ⟨{ cells := b.cells, grp := b.grp, base := b.base, forked := true, frz := false, ver := Nat.succ b.ver, el := b.el, whole := b.whole, kind := .row }, ?_, rfl, rfl, rfl, rfl, he⟩⟩
        rw [get_killAll, if_neg (by simp), get_set, if_pos rfl]
    | cons a t =>
      rw [show Nat.ble (Nat.add s.length (a :: t).length) s.length = false by
        cases hh : Nat.ble (Nat.add s.length (a :: t).length) s.length with
        | false => rfl
        | true => have h1 : s.length + (t.length + 1) ≤ s.length := Nat.le_of_ble_eq_true hh; omega]
      simp only [cond_false]
      rw [room (Nat.add s.length (a :: t).length) hl]
      simp only [Bool.not_true, cond_false]
      have hcell : cellsAt h id 0 (Nat.mul s.length 1) = some b.cells := by
        unfold cellsAt
        rw [hb]
        simp only [hk]
        show (bif true then partN b.cells 0 (s.length * 1) else none) = _
        rw [cond_true, cells_whole (by omega)]
      rw [hcell]
      simp only [hb, hf, he, Bool.false_or]
      rw [show Nat.beq 5 5 = true from rfl]
      simp only [Bool.not_true, cond_false]
      have hap : b.cells ++ bytesCells (a :: t) = bytesCells (s ++ a :: t) := by rw [hc, bytesCells_app]
      rw [hap]
      unfold appendFork
      have S : Sim b.grp h (killAll (h.set id { b with forked := true, ver := Nat.succ b.ver }) h.next b.grp (Nat.add (Nat.add b.base 0) (Nat.mul s.length 1)) (Nat.add (Nat.add (Nat.add b.base 0) (Nat.mul s.length 1)) (Nat.mul (a :: t).length 1)) h.next) := Sim.ks hb rfl rfl
      have hgn : b.grp < h.next := (W id b hb).2
      refine ⟨_, _, rfl, .inr ⟨by simp, h.next, { cells := bytesCells (s ++ a :: t), grp := b.grp, base := Nat.add b.base 0, forked := true, frz := false, ver := 0, el := b.el, whole := false, kind := .row }, ?_, ?_, rfl, rfl, rfl, he, ?_⟩, ?_, ?_, ?_⟩
      · rw [List.length_append]; rfl
      · rw [Heap.get_add, if_pos S.next.symm]
      · intro j c e hg
        rw [Heap.get_add] at e
        split at e
        · cases e; exact he
        · obtain ⟨c0, e0, g0, l0⟩ := S.back j c e
          rw [l0]; exact hs j c0 e0 (by rw [← g0]; exact hg)
      · exact (S.gw W).add (by rw [S.next]; show b.grp < h.next + 1; omega)
      · rw [Heap.next_add, S.next]; exact Nat.le_succ _
      · intro j c e h5
        rw [Heap.get_add, if_neg (by rw [S.next]; have := (W j c e).1; omega)]
        exact S.other j c e fun hg => h5 (hs j c e hg)

/-! ## The writer of a line -/
/-- block p is a writer that has written s -/
def Bld (h : Heap) (p : Nat) (s : List UInt8) : Prop := GW h ∧ ∃ g ver a x, h.get p = some (bk g 130 true ver [a, x]) ∧ (a = .nilp ∨ a = .ptrO p 0) ∧ OwnB h x s
def Wr (h0 h : Heap) (p : Nat) (s : List UInt8) : Prop := GW h0 ∧ Kp h0 h p ∧ Bld h p s
theorem Wr.self {h0 h : Heap} {p : Nat} {s : List UInt8} (w : Wr h0 h p s) : Wr h h p s := ⟨w.2.2.1, Kp.refl _ _, w.2.2⟩
theorem Wr.back {h0 h h' : Heap} {p : Nat} {s t : List UInt8} (w : Wr h0 h p s) (w' : Wr h h' p t) : Wr h0 h' p t := ⟨w.1, w.2.1.trans w'.2.1, w'.2.2⟩
/-- a new block -/
theorem Wr.new {h0 h : Heap} {p : Nat} {s : List UInt8} (w : Wr h0 h p s) {el : Nat} {wh : Bool} {cs : List AV} : Wr h0 (h.new el wh cs) p s := by
  obtain ⟨w0, k, W, g, ver, a, x, hp, ha, ho⟩ := w
  have old : ∀ j c, h.get j = some c → (h.new el wh cs).get j = some c := fun j c e => by rw [get_new, if_neg (by have := (W j c e).1; omega)]; exact e
  refine ⟨w0, k.trans ⟨Nat.le_succ _, fun j c e _ _ => old j c e⟩, W.new, g, ver, a, x, old _ _ hp, ha, ?_⟩
  rcases ho with ho | ⟨hne, id, b, q1, q2, q3, q4, q5, q6, q7⟩
  · exact .inl ho
  · refine .inr ⟨hne, id, b, q1, old _ _ q2, q3, q4, q5, q6, ?_⟩
    intro j c e hg
    rw [get_new] at e
    split at e
    · cases e; have := (W _ _ q2).2; have hg : h.next = b.grp := hg; omega
    · exact q7 j c e hg
/-- a block of one's own, that is no row of bytes and not the writer's, is changed -/
theorem Wr.set {h0 h : Heap} {p q g el ver ver' : Nat} {wh : Bool} {cs cs' : List AV} {s : List UInt8} (w : Wr h0 h p s) (hq : h.get q = some (bk g el wh ver cs)) (hn : h0.next ≤ q) (hp0 : p < h0.next) (h5 : el ≠ 5) : Wr h0 (h.set q (bk g el wh ver' cs')) p s := by
  obtain ⟨w0, k, W, g1, ver1, a, x, hp, ha, ho⟩ := w
  have hqp : q ≠ p := by omega
  refine ⟨w0, ⟨k.1, fun j c e c5 cp => gso (by have := (w0 j c e).1; omega) (k.2 j c e c5 cp)⟩, W.set hq rfl, g1, ver1, a, x, gso (Ne.symm hqp) hp, ha, ?_⟩
  · rcases ho with ho | ⟨hne, id, b, q1, q2, q3, q4, q5, q6, q7⟩
    · exact .inl ho
    · have hid : id ≠ q := by intro e; subst e; rw [hq] at q2; cases q2; exact h5 q6
      refine .inr ⟨hne, id, b, q1, gso hid q2, q3, q4, q5, q6, ?_⟩
      intro j c e hg
      rw [get_set] at e
      split at e
      · rename_i hj; subst hj; cases e
        have h1 : el = 5 := q7 _ _ hq hg
        exact absurd h1 h5
      · exact q7 j c e hg
theorem Wr.cast {h0 h : Heap} {p : Nat} {s t : List UInt8} (w : Wr h0 h p s) (e : s = t) : Wr h0 h p t := e ▸ w
theorem Wr.lt {h0 h : Heap} {p : Nat} {s : List UInt8} (w : Wr h0 h p s) : p < h.next := by
  obtain ⟨_, _, W, g, ver, a, x, hp, _⟩ := w
  exact (W _ _ hp).1
theorem Wr.le {h0 h : Heap} {p : Nat} {s : List UInt8} (w : Wr h0 h p s) : h0.next ≤ h.next := w.2.1.1
theorem Wr.kept {h0 h : Heap} {p q : Nat} {s : List UInt8} {b : Blk} (w : Wr h0 h p s) (hq : h0.get q = some b) (h5 : b.el ≠ 5) (hne : q ≠ p) : h.get q = some b := w.2.1.2 q b hq h5 hne
theorem OwnB.set {h : Heap} {x : AV} {s : List UInt8} {q g el ver ver' : Nat} {wh : Bool} {cs cs' : List AV} (O : OwnB h x s) (hq : h.get q = some (bk g el wh ver cs)) (h5 : el ≠ 5) : OwnB (h.set q (bk g el wh ver' cs')) x s := by
  rcases O with ho | ⟨hne, id, b, q1, q2, q3, q4, q5, q6, q7⟩
  · exact .inl ho
  · have hid : id ≠ q := by intro e; subst e; rw [hq] at q2; cases q2; exact h5 q6
    refine .inr ⟨hne, id, b, q1, gso hid q2, q3, q4, q5, q6, ?_⟩
    intro j c e hg
    rw [get_set] at e
    split at e
    · rename_i hj; subst hj; cases e
      have h1 : el = 5 := q7 _ _ hq hg
      exact absurd h1 h5
    · exact q7 j c e hg
theorem OwnB.plain {h : Heap} {x : AV} {s : List UInt8} (O : OwnB h x s) : plainA x = true ∧ x.cells = [x] := by
  rcases O with ⟨rfl, _⟩ | ⟨_, id, b, rfl, _⟩ <;> exact ⟨rfl, rfl⟩
theorem store_b {h : Heap} {p g ver : Nat} {a x y : AV} (hg : h.get p = some (bk g 130 true ver [a, x])) (hp : plainA y = true ∧ y.cells = [y]) : opStore (Cg K) h 126 (.ptrO p 1) y = some (.tup [], h.set p (bk g 130 true (Nat.succ ver) [a, y])) := by
  refine store_k hg ?_ (by rw [hp.2]; rfl)
  rw [hp.1, hp.2]
  kernel_rfl
/-- what has been written is written -/
theorem wr_fin {h0 h h1 h2 : Heap} {p g ver ver' : Nat} {a x x' : AV} {s' : List UInt8} (w0 : GW h0) (k : Kp h0 h p) (n1 : h1.next = h.next) (k1 : ∀ j c, h.get j = some c → j ≠ p → h1.get j = some c) (W2 : GW h2) (n2 : h1.next ≤ h2.next)
    (k2 : ∀ j c, h1.get j = some c → c.el ≠ 5 → h2.get j = some c) (hg : h2.get p = some (bk g 130 true ver [a, x])) (ha : a = .nilp ∨ a = .ptrO p 0) (O : OwnB h2 x' s') : Wr h0 (h2.set p (bk g 130 true ver' [a, x'])) p s' := by
  refine ⟨w0, ⟨?_, fun j c e h5 hj => gso hj (k2 j c (k1 j c (k.2 j c e h5 hj) hj) h5)⟩, W2.set hg rfl, g, ver', a, x', gss, ha, O.set hg (by decide)⟩
  have := k.1
  show h0.next ≤ h2.next
  omega
theorem conv_125_205 {h : Heap} {p g ver : Nat} {a x : AV} (hg : h.get p = some (bk g 130 true ver [a, x])) : opConvert (Cg K) h 125 205 (.ptrO p 0) = some (.ptrO p 0, h) := by
  have e : opConvert (Cg K) h 125 205 (.ptrO p 0) = (match h.get p with | some b => bif b.kind.isRow && (Nat.ble 1 (lenN b.cells) && true && true) then some (.ptrO p 0, h) else none | none => none) := by kernel_rfl
  rw [e, hg]; rfl
theorem conv_205_125 {h : Heap} {p g ver : Nat} {a x : AV} (hg : h.get p = some (bk g 130 true ver [a, x])) : opConvert (Cg K) h 205 125 (.ptrO p 0) = some (.ptrO p 0, h) := by
  have e : opConvert (Cg K) h 205 125 (.ptrO p 0) = (match h.get p with | some b => bif b.kind.isRow && (b.whole && true && liesAt Tryz.prog Tryz.prog.depth b.el (lenN b.cells / Tryz.prog.cellsOf b.el) 0 128 1) then some (.ptrO p 0, h) else none | none => none) := by kernel_rfl
  have l : liesAt Tryz.prog Tryz.prog.depth 130 (2 / Tryz.prog.cellsOf 130) 0 128 1 = true := by kernel_rfl
  rw [e, hg]
  show (bif true && (true && true && liesAt Tryz.prog Tryz.prog.depth 130 (2 / Tryz.prog.cellsOf 130) 0 128 1) then some (AV.ptrO p 0, h) else none) = _
  rw [l]; rfl
end
end Go.Abs
namespace Go.Abs
noncomputable section
open Go Go.Proofs
variable {K : Nat}
theorem noescape_c {n : Nat} (hn : 1 ≤ n) {p : Nat} (h : Heap) : (fns (Cg K) n).call 111 [.ptrO p 0] h none = some (.val (.ptrO p 0) h none) := by
  obtain ⟨m, rfl⟩ : ∃ m, n = m + 1 := ⟨n - 1, by omega⟩
  kernel_rfl
theorem ptr_same {p : Nat} (b : Bool) (hp : Heap) : keep hp (binA (Cg K) 125 b .neq (.ptrO p 0) (.ptrO p 0)) = some (.bool false, hp) := by
  have e : eqPtr (.ptrO p 0) (.ptrO p 0) = some true := by
    show (bif Nat.beq p p then some (Nat.beq 0 0) else none) = _
    rw [Nat.beq_refl]; rfl
  have e2 : binA (Cg K) 125 b .neq (.ptrO p 0) (.ptrO p 0) = (match eqPtr (.ptrO p 0) (.ptrO p 0) with | some b => some (AV.bool (!b)) | none => none) := by kernel_rfl
  rw [e2, e]; rfl
set_option maxRecDepth 20000 in
theorem copyCheck0_c {n : Nat}  (hn : 2 ≤ n) {p g ver : Nat} {x : AV}  {h : Heap} (hg : h.get p = some (bk g 130 true ver [.nilp, x])) : (fns (Cg K) n).call 86 [.ptrO p 0] h none = some (.val (.tup []) (h.set p (bk g 130 true (Nat.succ ver) [.ptrO p 0, x])) none) := by
  obtain ⟨m, rfl⟩ : ∃ m, n = m + 1 := ⟨n - 1, by omega⟩
  refine plainq (C := Cg K) (F := fns (Cg K) m) (fn := Tryz.f86) (c := bodyOf Tryz.f86) (by kernel_rfl) (by kernel_rfl) (by kernel_rfl) (by kernel_rfl) (by kernel_rfl) (by kernel_rfl) ?_
  refine W.seq ?_
  refine W.region ?_
  refine WO.adv 3 (by kernel_rfl) ?_
  refine WO.opk (y := keep h (opLoad (Cg K) h 125 (.ptrO p 0))) (x := .nilp) (h' := h) (load_k hg (by kernel_rfl)) (by kernel_rfl) ?_
  refine WO.fin (by kernel_rfl) ?_
  refine W.cond true (by kernel_rfl) (fun _ => ?_) (fun h => by cases h)
  refine W.region ?_
  refine WO.adv 2 (by kernel_rfl) ?_
  refine WO.opk (y := opConvert (Cg K) h 125 205 (.ptrO p 0)) (x := .ptrO p 0) (h' := h) (conv_125_205 hg) (by kernel_rfl) ?_
  refine WO.callp (by kernel_rfl) (noescape_c (n := m) (p := p) (by omega) _) ?_
  refine WO.opk (y := opConvert (Cg K) h 205 125 (.ptrO p 0)) (x := .ptrO p 0) (h' := h) (conv_205_125 hg) (by kernel_rfl) ?_
  refine WO.adv 2 (by kernel_rfl) ?_
  refine WO.opk (y := opStore (Cg K) h 125 (.ptrO p 0) (.ptrO p 0)) (x := .tup []) (h' := (h.set p (bk g 130 true (Nat.succ ver) [.ptrO p 0, x]))) (store_k hg (by kernel_rfl) (by kernel_rfl)) (by kernel_rfl) ?_
  refine WO.nil ?_
  exact RetN.kn (v' := .tup []) (h' := (h.set p (bk g 130 true (Nat.succ ver) [.ptrO p 0, x]))) (by rfl) (by rfl) (by kernel_rfl) (by kernel_rfl) (by kernel_rfl)

set_option maxRecDepth 20000 in
theorem copyCheck1_c {n : Nat}  (hn : 2 ≤ n) {p g ver : Nat} {x : AV}  {h : Heap} (hg : h.get p = some (bk g 130 true ver [.ptrO p 0, x])) : (fns (Cg K) n).call 86 [.ptrO p 0] h none = some (.val (.tup []) h none) := by
  obtain ⟨m, rfl⟩ : ∃ m, n = m + 1 := ⟨n - 1, by omega⟩
  refine plainq (C := Cg K) (F := fns (Cg K) m) (fn := Tryz.f86) (c := bodyOf Tryz.f86) (by kernel_rfl) (by kernel_rfl) (by kernel_rfl) (by kernel_rfl) (by kernel_rfl) (by kernel_rfl) ?_
  refine W.seq ?_
  refine W.region ?_
  refine WO.adv 3 (by kernel_rfl) ?_
  refine WO.opk (y := keep h (opLoad (Cg K) h 125 (.ptrO p 0))) (x := .ptrO p 0) (h' := h) (load_k hg (by kernel_rfl)) (by kernel_rfl) ?_
  refine WO.fin (by kernel_rfl) ?_
  refine W.cond false (by kernel_rfl) (fun h => by cases h) (fun _ => ?_)
  refine W.seq ?_
  refine W.region ?_
  refine WO.adv 3 (by kernel_rfl) ?_
  refine WO.opk (y := keep h (opLoad (Cg K) h 125 (.ptrO p 0))) (x := .ptrO p 0) (h' := h) (load_k hg (by kernel_rfl)) (by kernel_rfl) ?_
  refine WO.adv 1 (by kernel_rfl) ?_
  refine WO.opc (ptr_same (K := K) (p := p) false) (by kernel_rfl) ?_
  refine WO.nil ?_
  refine W.cond false (by kernel_rfl) (fun h => by cases h) (fun _ => ?_)
  refine W.skip ?_
  exact RetN.kn (v' := .tup []) (h' := h) (by rfl) (by rfl) (by kernel_rfl) (by kernel_rfl) (by kernel_rfl)

set_option maxRecDepth 20000 in
theorem writeString0_c {n : Nat}  (hn : 3 ≤ n) {p g ver : Nat} {x : AV} {h0 h : Heap} {s t : List UInt8} (w0 : GW h0) (k : Kp h0 h p) (hW : GW h) (O : OwnB h x s) (hl : s.length + t.length ≤ 1000000000000) (hg : h.get p = some (bk g 130 true ver [.nilp, x]))  : ∃ h', (fns (Cg K) n).call 63 [.ptrO p 0, .str t] h none = some (.val (.tup [.int .i64 ((lenN t : Nat) : Int), .nili]) h' none) ∧ (fun h' => Wr h0 h' p (s ++ t)) h' := by
  obtain ⟨m, rfl⟩ : ∃ m, n = m + 1 := ⟨n - 1, by omega⟩
  refine plainx (C := Cg K) (F := fns (Cg K) m) (fn := Tryz.f63) (c := bodyOf Tryz.f63) (by kernel_rfl) (by kernel_rfl) (by kernel_rfl) (by kernel_rfl) (by kernel_rfl) (by kernel_rfl) ?_
  refine W.seq ?_
  refine W.region ?_
  refine WO.fin (by kernel_rfl) ?_
  refine W.seq ?_
  refine W.region ?_
  refine WO.adv 1 (by kernel_rfl) ?_
  refine WO.callh (by kernel_rfl) (by kernel_rfl) (copyCheck0_c (n := m) (by omega) hg) ?_
  refine WO.nil ?_
  refine W.seq ?_
  refine W.region ?_
  refine WO.adv 4 (by kernel_rfl) ?_
  refine WO.opk (y := keep (h.set p (bk g 130 true (Nat.succ ver) [.ptrO p 0, x])) (opLoad (Cg K) (h.set p (bk g 130 true (Nat.succ ver) [.ptrO p 0, x])) 126 (.ptrO p 1))) (x := x) (h' := (h.set p (bk g 130 true (Nat.succ ver) [.ptrO p 0, x]))) (load_k gss (by kernel_rfl)) (by kernel_rfl) ?_
  refine WO.adv 1 (by kernel_rfl) ?_
  obtain ⟨x2, h2, he2, O2, hW2, n2, k2⟩ := append_bytes (K := K) (h := (h.set p (bk g 130 true (Nat.succ ver) [.ptrO p 0, x]))) (x := x) (s := s) (t := t) (GW.set hW hg rfl) (OwnB.set O hg (by decide)) hl
  have hg2 : h2.get p = some (bk g 130 true (Nat.succ ver) [.ptrO p 0, x]) := k2 p _ gss (show 130 ≠ 5 by decide)
  refine WO.opk he2 (by kernel_rfl) ?_
  refine WO.adv 2 (by kernel_rfl) ?_
  refine WO.opk (y := opStore (Cg K) h2 126 (.ptrO p 1) x2) (x := .tup []) (h' := (h2.set p (bk g 130 true (Nat.succ (Nat.succ ver)) [.ptrO p 0, x2]))) (store_b hg2 O2.plain) (by kernel_rfl) ?_
  refine WO.nil ?_
  refine W.seq ?_
  refine W.region ?_
  refine WO.fin (by kernel_rfl) ?_
  refine W.ret ?_
  exact RetX.k (h' := (h2.set p (bk g 130 true (Nat.succ (Nat.succ ver)) [.ptrO p 0, x2]))) (wr_fin (h := h) (h1 := h.set p (bk g 130 true (Nat.succ ver) [.ptrO p 0, x])) w0 k rfl (fun j c e hj => gso hj e) hW2 n2 k2 hg2 (.inr rfl) O2) (v' := .tup [.int .i64 ((lenN t : Nat) : Int), .nili]) (by rfl) (by kernel_rfl) (by kernel_rfl) (by kernel_rfl)

set_option maxRecDepth 20000 in
theorem writeString1_c {n : Nat}  (hn : 3 ≤ n) {p g ver : Nat} {x : AV} {h0 h : Heap} {s t : List UInt8} (w0 : GW h0) (k : Kp h0 h p) (hW : GW h) (O : OwnB h x s) (hl : s.length + t.length ≤ 1000000000000) (hg : h.get p = some (bk g 130 true ver [.ptrO p 0, x]))  : ∃ h', (fns (Cg K) n).call 63 [.ptrO p 0, .str t] h none = some (.val (.tup [.int .i64 ((lenN t : Nat) : Int), .nili]) h' none) ∧ (fun h' => Wr h0 h' p (s ++ t)) h' := by
  obtain ⟨m, rfl⟩ : ∃ m, n = m + 1 := ⟨n - 1, by omega⟩
  refine plainx (C := Cg K) (F := fns (Cg K) m) (fn := Tryz.f63) (c := bodyOf Tryz.f63) (by kernel_rfl) (by kernel_rfl) (by kernel_rfl) (by kernel_rfl) (by kernel_rfl) (by kernel_rfl) ?_
  refine W.seq ?_
  refine W.region ?_
  refine WO.fin (by kernel_rfl) ?_
  refine W.seq ?_
  refine W.region ?_
  refine WO.adv 1 (by kernel_rfl) ?_
  refine WO.callp (by kernel_rfl) (copyCheck1_c (n := m) (by omega) hg) ?_
  refine WO.nil ?_
  refine W.seq ?_
  refine W.region ?_
  refine WO.adv 4 (by kernel_rfl) ?_
  refine WO.opk (y := keep h (opLoad (Cg K) h 126 (.ptrO p 1))) (x := x) (h' := h) (load_k hg (by kernel_rfl)) (by kernel_rfl) ?_
  refine WO.adv 1 (by kernel_rfl) ?_
  obtain ⟨x2, h2, he2, O2, hW2, n2, k2⟩ := append_bytes (K := K) (h := h) (x := x) (s := s) (t := t) hW O hl
  have hg2 : h2.get p = some (bk g 130 true ver [.ptrO p 0, x]) := k2 p _ hg (show 130 ≠ 5 by decide)
  refine WO.opk he2 (by kernel_rfl) ?_
  refine WO.adv 2 (by kernel_rfl) ?_
  refine WO.opk (y := opStore (Cg K) h2 126 (.ptrO p 1) x2) (x := .tup []) (h' := (h2.set p (bk g 130 true (Nat.succ ver) [.ptrO p 0, x2]))) (store_b hg2 O2.plain) (by kernel_rfl) ?_
  refine WO.nil ?_
  refine W.seq ?_
  refine W.region ?_
  refine WO.fin (by kernel_rfl) ?_
  refine W.ret ?_
  exact RetX.k (h' := (h2.set p (bk g 130 true (Nat.succ ver) [.ptrO p 0, x2]))) (wr_fin (h := h) (h1 := h) w0 k rfl (fun j c e _ => e) hW2 n2 k2 hg2 (.inr rfl) O2) (v' := .tup [.int .i64 ((lenN t : Nat) : Int), .nili]) (by rfl) (by kernel_rfl) (by kernel_rfl) (by kernel_rfl)

theorem writeString_c {n : Nat} (hn : 3 ≤ n) {p : Nat} {h0 h : Heap} {s t : List UInt8} (w : Wr h0 h p s) (hl : s.length + t.length ≤ 1000000000000) : ∃ h', (fns (Cg K) n).call 63 [.ptrO p 0, .str t] h none = some (.val (.tup [.int .i64 ((lenN t : Nat) : Int), .nili]) h' none) ∧ Wr h0 h' p (s ++ t) := by
  obtain ⟨w0, k, W, g, ver, a, x, hg, ha, O⟩ := w
  rcases ha with rfl | rfl
  · exact writeString0_c hn w0 k W O hl hg
  · exact writeString1_c hn w0 k W O hl hg
end
end Go.Abs
