/- A part of the proofs of the laws of logs: see the last text of this claim. -/
import Derived.Test.YtlehhkleemaloaaGreatDoorB8
namespace Go.Abs
noncomputable section
open Go Go.Proofs
variable {K : Nat}
/-! ## The reference's reckoning, step by step -/
section
variable {q : List UInt8} {i : Nat}
theorem get_drop (hi : i < q.length) : q.drop i = q.getD i 0 :: q.drop (i + 1) := by
  rw [List.drop_eq_getElem_cons hi, List.getD_eq_getElem?_getD, List.getElem?_eq_getElem hi]; rfl
theorem val_take (hi : i < q.length) : valD 0 (q.take (i + 1)) = valD 0 (q.take i) * 10 + ((q.getD i 0).toNat - 48) := by
  rw [List.take_add_one, List.getElem?_eq_getElem hi, Option.toList_some, valD_app, valD_cons, valD_nil, List.getD_eq_getElem?_getD, List.getElem?_eq_getElem hi]; rfl
theorem digs_at (hi : i < q.length) (hd : isDg (q.getD i 0) = true) (hl : valD 0 (q.take (i + 1)) ≤ 9223372036854775808) : digs (valD 0 (q.take i)) (q.drop i) = digs (valD 0 (q.take (i + 1))) (q.drop (i + 1)) := by
  rw [val_take hi] at hl ⊢
  rw [get_drop hi, digs_cons, if_pos hd, if_neg (by omega)]
theorem digs_dg (hi : i < q.length) (hd : isDg (q.getD i 0) = false) (a : Nat) : digs a (q.drop i) = none := by
  rw [get_drop hi, digs_cons, if_neg (by rw [hd]; simp)]
theorem digs_big (hi : i < q.length) (hd : isDg (q.getD i 0) = true) (hl : 9223372036854775808 < valD 0 (q.take i) * 10 + ((q.getD i 0).toNat - 48)) : digs (valD 0 (q.take i)) (q.drop i) = none := by
  rw [get_drop hi, digs_cons, if_pos hd, if_pos hl]
theorem dg_range {c : UInt8} (h : isDg c = true) : 48 ≤ c.toNat ∧ c.toNat ≤ 57 := by
  unfold isDg at h
  rw [Bool.and_eq_true] at h
  exact ⟨of_decide_eq_true h.1, of_decide_eq_true h.2⟩
end
def limD (d : Nat) : Int := -(((9223372036854775808 - d) / 10 : Nat) : Int)
theorem lim_true {a d : Nat} (hd : d ≤ 9) (h : decide (-((a : Nat) : Int) < limD d) = true) : 9223372036854775808 < a * 10 + d := by
  have h := of_decide_eq_true h
  unfold limD at h
  omega
theorem lim_false {a d : Nat} (hd : d ≤ 9) (h : decide (-((a : Nat) : Int) < limD d) = false) : a * 10 + d ≤ 9223372036854775808 := by
  have h := of_decide_eq_false h
  unfold limD at h
  omega
theorem quo_lim {d : Nat} (hd : d ≤ 9) (b : Bool) (t : TypeId) (hp : Heap) : keep hp (binA (Cg K) t b .quo (.int .i64 (wrapF .i64 (-9223372036854775808 + ((d : Nat) : Int)))) (.int .i64 10)) = some (.int .i64 (limD d), hp) := by
  have e0 : wrapF .i64 (-9223372036854775808 + ((d : Nat) : Int)) = -(((9223372036854775808 - d : Nat)) : Int) := by
    rw [wrap_in (inR64_of (by omega) (by omega))]; omega
  have e : Int.tdiv (-(((9223372036854775808 - d : Nat)) : Int)) 10 = limD d := by rw [Int.neg_tdiv]; rfl
  show keep hp (some (AV.int .i64 (wrapF .i64 (Int.tdiv (wrapF .i64 (-9223372036854775808 + ((d : Nat) : Int))) 10)))) = _
  rw [e0, e, wrap_in (inR64_of (by unfold limD; omega) (by unfold limD; omega))]; rfl
theorem acc_next {a d : Nat} (h : a * 10 + d ≤ 9223372036854775808) : wrapF .i64 (wrapF .i64 (10 * (-((a : Nat) : Int))) - ((d : Nat) : Int)) = -((a * 10 + d : Nat) : Int) := by
  rw [wrap_in (n := 10 * (-((a : Nat) : Int))) (inR64_of (by omega) (by omega)), wrap_in (inR64_of (by omega) (by omega))]; omega
theorem neg_any {x : Int} (hp : Heap) : keep hp (unA .neg (.int .i64 x)) = some (.int .i64 (wrapF .i64 (0 - x)), hp) := rfl
theorem conv9 : ∀ {z : Nat} (_ : z ≤ 9) (hp : Heap), opConvert (Cg K) hp 5 3 (.int .u8 (wrapF .u8 ((z : Nat) : Int))) = some (.int .i64 ((z : Nat) : Int), hp)
  | 0, _, hp => by kernel_rfl
  | 1, _, hp => by kernel_rfl
  | 2, _, hp => by kernel_rfl
  | 3, _, hp => by kernel_rfl
  | 4, _, hp => by kernel_rfl
  | 5, _, hp => by kernel_rfl
  | 6, _, hp => by kernel_rfl
  | 7, _, hp => by kernel_rfl
  | 8, _, hp => by kernel_rfl
  | 9, _, hp => by kernel_rfl
  | z + 10, h, hp => by omega
theorem conv_dig {c : UInt8} (h : isDg c = true) (hp : Heap) : opConvert (Cg K) hp 5 3 (.int .u8 (wrapF .u8 (((c.toNat : Nat) : Int) - 48))) = some (.int .i64 ((c.toNat - 48 : Nat) : Int), hp) := by
  have hr := dg_range h
  have e : ((c.toNat : Nat) : Int) - 48 = ((c.toNat - 48 : Nat) : Int) := by omega
  rw [e]
  generalize hz : c.toNat - 48 = z
  have hz9 : z ≤ 9 := by omega
  exact conv9 hz9 hp
theorem str_at {s : List UInt8} {i : Nat} (hi : i < s.length) (hp : Heap) : keep hp (opIndex (Cg K) 9 (.str s) (.int .i64 ((i : Nat) : Int))) = some (.int .u8 (((s.getD i 0).toNat : Nat) : Int), hp) := by
  have e : keep hp (opIndex (Cg K) 9 (.str s) (.int .i64 ((i : Nat) : Int))) = keep hp (match nth s i with | some b => some (.int .u8 b.toNat) | none => none) := by kernel_rfl
  have hn : nth s i = some (s.getD i 0) := by rw [nth_eq, List.getD_eq_getElem?_getD, List.getElem?_eq_getElem hi]; rfl
  rw [e, hn]; rfl
section
variable {p : List UInt8}
theorem dec_bad (h : badB p = true) : AV.tup [.int .i64 (decV p), .bool (decO p).isSome] = .tup [.int .i64 0, .bool false] := by
  have e : decO p = none := by unfold decO; rw [h]; rfl
  unfold decV; rw [e, h]; rfl
theorem dec_none (h : badB p = false) (hd : digs 0 (magB p) = none) : AV.tup [.int .i64 (decV p), .bool (decO p).isSome] = .tup [.int .i64 0, .bool false] := by
  have e : decO p = none := by unfold decO; rw [h, hd]; rfl
  unfold decV; rw [e, h, hd]; rfl
theorem dec_neg {m : Nat} (h : badB p = false) (hd : digs 0 (magB p) = some m) (hn : negB p = true) : AV.tup [.int .i64 (decV p), .bool (decO p).isSome] = .tup [.int .i64 (-((m : Nat) : Int)), .bool true] := by
  have e : decO p = some (-((m : Nat) : Int)) := by unfold decO; rw [h, hd]; simp only [cond_false]; rw [hn]; rfl
  unfold decV; rw [e]; rfl
theorem dec_pos {m : Nat} (h : badB p = false) (hd : digs 0 (magB p) = some m) (hn : negB p = false) (hm : m ≤ 9223372036854775808) : AV.tup [.int .i64 (decV p), .bool (decO p).isSome] = .tup [.int .i64 (wrapF .i64 (0 - -((m : Nat) : Int))), .bool (-((m : Nat) : Int) != -9223372036854775808)] := by
  by_cases h8 : m = 9223372036854775808
  · have e : decO p = none := by unfold decO; rw [h, hd]; simp only [cond_false]; rw [hn]; simp only [cond_false]; rw [if_pos h8]
    unfold decV
    rw [e, h, hd]
    subst h8
    change _ = _
    rfl
  · have e : decO p = some ((m : Nat) : Int) := by unfold decO; rw [h, hd]; simp only [cond_false]; rw [hn]; simp only [cond_false]; rw [if_neg h8]
    have e2 : (-((m : Nat) : Int) != -9223372036854775808) = true := bne_iff_ne.2 (by omega)
    unfold decV
    rw [e, e2, wrap_in (inR64_of (by omega) (by omega)), show (0 - -((m : Nat) : Int)) = ((m : Nat) : Int) by omega]
    rfl
theorem byte_eq {c : UInt8} {n : Nat} (hn : n < 256) : (((c.toNat : Nat) : Int) == ((n : Nat) : Int)) = decide (c = UInt8.ofNat n) := by
  cases h : decide (c = UInt8.ofNat n) with
  | true =>
    have h := of_decide_eq_true h
    subst h
    rw [beq_iff_eq]
    have : (UInt8.ofNat n).toNat = n := by simp [UInt8.toNat_ofNat', Nat.mod_eq_of_lt hn]
    rw [this]
  | false =>
    have h := of_decide_eq_false h
    cases h2 : (((c.toNat : Nat) : Int) == ((n : Nat) : Int)) with
    | false => rfl
    | true =>
      exfalso
      apply h
      have h2 := eq_of_beq h2
      apply UInt8.toNat_inj.1
      have : (UInt8.ofNat n).toNat = n := by simp [UInt8.toNat_ofNat', Nat.mod_eq_of_lt hn]
      rw [this]; omega
theorem head_get {s : List UInt8} (h : s ≠ []) (c : UInt8) : decide (s.head? = some c) = decide (s.getD 0 0 = c) := by
  cases s with
  | nil => exact absurd rfl h
  | cons a l => simp
end
end
end Go.Abs
namespace Go.Abs
noncomputable section
open Go Go.Proofs
variable {K : Nat}
theorem nb_f {b : Bool} (h : (!b) = false) : b = true := by cases b <;> first | rfl | cases h
theorem nb_t {b : Bool} (h : (!b) = true) : b = false := by cases b <;> first | rfl | cases h
theorem gt1_pos {p : List UInt8} (h : decide (((lenN p : Nat) : Int) > 1) = true) : 0 < p.length := by
  have h := of_decide_eq_true h
  rw [lenN_eq] at h; omega
theorem ne_pos {q : List UInt8} (h : beqBytes q [] = false) : 0 < q.length := by
  cases q with
  | nil => cases h
  | cons a l => exact Nat.succ_pos _
theorem lt_len {q : List UInt8} {i : Nat} (h : decide (((i : Nat) : Int) < ((lenN q : Nat) : Int)) = true) : i < q.length := by
  have h := of_decide_eq_true h
  rw [lenN_eq] at h; omega
theorem neg_one {p : List UInt8} (h : decide (((lenN p : Nat) : Int) > 1) = true) : negB p = ((((p.getD 0 0).toNat : Nat) : Int) == 45) := by
  have h1 := of_decide_eq_true h
  rw [lenN_eq] at h1
  have hp : p ≠ [] := by intro e; subst e; simp at h1
  unfold negB
  rw [head_get hp, show decide (1 < p.length) = true from decide_eq_true (by omega), Bool.true_and]
  exact (byte_eq (n := 45) (by omega)).symm
theorem neg_zero {p : List UInt8} (h : decide (((lenN p : Nat) : Int) > 1) = false) : negB p = false := by
  have h1 := of_decide_eq_false h
  rw [lenN_eq] at h1
  unfold negB
  rw [show decide (1 < p.length) = false from decide_eq_false (by omega), Bool.false_and]
theorem bad_eq (p : List UInt8) : badB p = (beqBytes (magB p) [] || (((((magB p).getD 0 0).toNat : Nat) : Int) == 48) && (decide (((lenN (magB p) : Nat) : Int) > 1) || negB p)) := by
  unfold badB
  rw [beq_nil, lenN_eq]
  cases h : decide (magB p = []) with
  | true => rfl
  | false =>
    have e0 : decide ((magB p).getD 0 0 = 48) = ((((((magB p).getD 0 0).toNat : Nat) : Int)) == 48) := (byte_eq (n := 48) (by omega)).symm
    rw [head_get (of_decide_eq_false h), e0]
    have e : decide (1 < (magB p).length) = decide ((((magB p).length : Nat) : Int) > 1) := decide_eq_decide.2 (by omega)
    rw [e]
theorem mag_len {p : List UInt8} (h : p.length ≤ 4000) : lenN (magB p) ≤ 4000 := by
  rw [lenN_eq]
  unfold magB
  cases negB p with
  | true => simp only [cond_true, List.length_drop]; omega
  | false => exact h
theorem take_end {q : List UInt8} {i : Nat} (h : decide (((i : Nat) : Int) < ((lenN q : Nat) : Int)) = false) : q.take i = q ∧ q.drop i = [] := by
  have h := of_decide_eq_false h
  rw [lenN_eq] at h
  exact ⟨List.take_of_length_le (by omega), List.drop_eq_nil_of_le (by omega)⟩
set_option maxRecDepth 20000 in
theorem isDigit_c {n : Nat}  (hn : 1 ≤ n) (c : UInt8)  (h : Heap) : (fns (Cg K) n).call 71 [.int .u8 ((c.toNat : Nat) : Int)] h none = some (.val (.bool (isDg c)) h none) := by
  obtain ⟨m, rfl⟩ : ∃ m, n = m + 1 := ⟨n - 1, by omega⟩
  refine pureq (C := Cg K) (F := fns (Cg K) m) (fn := Tryz.f71) (c := bodyOf Tryz.f71) (by kernel_rfl) (by kernel_rfl) (by kernel_rfl) (by kernel_rfl) (by kernel_rfl) (by kernel_rfl) (by kernel_rfl) ?_ h
  refine W.seq ?_
  refine W.region ?_
  refine WO.fin (by kernel_rfl) ?_
  refine W.seq ?_
  refine W.region ?_
  refine WO.adv 3 (by kernel_rfl) ?_
  refine splitB (decide (((c.toNat : Nat) : Int) ≥ 48)) (fun hb1 => ?_) (fun hb1 => ?_)
  · refine WO.sub 4 hb1 (by kernel_rfl) ?_
    refine WO.sub 5 hb1 (by kernel_rfl) ?_
    refine WO.fin (by kernel_rfl) ?_
    refine W.ret ?_
    exact RetQ.k (v' := .bool (decide (((c.toNat : Nat) : Int) ≤ 57))) (by unfold isDg; rw [show decide (48 ≤ c.toNat) = true from decide_eq_true (by have := of_decide_eq_true hb1; omega), Bool.true_and]; exact congrArg AV.bool (decide_eq_decide.2 (by omega))) (by kernel_rfl) (by kernel_rfl)
  · refine WO.sub 4 hb1 (by kernel_rfl) ?_
    refine WO.sub 5 hb1 (by kernel_rfl) ?_
    refine WO.fin (by kernel_rfl) ?_
    refine W.ret ?_
    exact RetQ.k (v' := .bool false) (by unfold isDg; rw [show decide (48 ≤ c.toNat) = false from decide_eq_false (by have := of_decide_eq_false hb1; omega), Bool.false_and]) (by kernel_rfl) (by kernel_rfl)

theorem neg_cut {p : List UInt8} (h : negB p = true) (hp : Heap) : keep hp (opSlice (Cg K) hp 9 (.str p) (some (.int .i64 1)) none none) = some (.str (p.drop 1), hp) := by
  unfold negB at h
  rw [Bool.and_eq_true] at h
  have h1 := of_decide_eq_true h.1
  have := str_from (K := K) (s := p) (a := 1) (by omega) (by omega) hp
  exact this
set_option maxRecDepth 20000 in
theorem decimal_c {n : Nat}  (hn : 2 ≤ n) (p : List UInt8) (hp : p.length ≤ 4000) (hK : big ≤ K)  (h : Heap) : (fns (Cg K) n).call 72 [.str p] h none = some (.val (.tup [.int .i64 (decV p), .bool (decO p).isSome]) h none) := by
  obtain ⟨m, rfl⟩ : ∃ m, n = m + 1 := ⟨n - 1, by omega⟩
  have hm4 := mag_len hp
  have hlen : lenN (magB p) ≤ 9223372036854775807 := by omega
  have hlK : lenN (magB p) < (Cg K).loops := by rw [loops_eq]; unfold big at hK; omega
  refine pureq (C := Cg K) (F := fns (Cg K) m) (fn := Tryz.f72) (c := bodyOf Tryz.f72) (by kernel_rfl) (by kernel_rfl) (by kernel_rfl) (by kernel_rfl) (by kernel_rfl) (by kernel_rfl) (by kernel_rfl) ?_ h
  refine W.seq ?_
  refine W.region ?_
  refine WO.fin (by kernel_rfl) ?_
  refine W.seqj (fun t => (S 65 ((some (.str p)) :: none :: (some (.int .i64 0)) :: (some (.bool false)) :: (some (.bool (negB p))) :: none :: none :: none :: (t.g 8) :: (t.g 9) :: (t.g 10) :: (t.g 11) :: (t.g 12) :: (t.g 13) :: (t.g 14) :: (t.g 15) :: none :: none :: none :: none :: none :: none :: none :: none :: none :: none :: none :: none :: none :: none :: none :: none :: none :: none :: none :: none :: none :: none :: none :: none :: none :: none :: none :: none :: none :: none :: none :: none :: none :: none :: none :: none :: none :: none :: none :: none :: none :: none :: none :: none :: none :: none :: none :: none :: none :: []) (hpL []))) ?_ (fun t1 => ?_)
  · refine W.region ?_
    refine WO.adv 4 (by kernel_rfl) ?_
    refine splitB (decide (((lenN p : Nat) : Int) > 1)) (fun hb2 => ?_) (fun hb2 => ?_)
    · refine WO.sub 10 hb2 (by kernel_rfl) ?_
      refine WO.sub 11 hb2 (by kernel_rfl) ?_
      refine WO.adv 1 (by kernel_rfl) ?_
      refine WO.opc (str_at (K := K) (s := p) (i := 0) (gt1_pos hb2)) (by kernel_rfl) ?_
      refine WO.fin (by kernel_rfl) ?_
      refine Told.put 4 (v := .bool ((((p.getD 0 0).toNat : Nat) : Int) == 45)) (v' := .bool (negB p)) (congrArg _ (Eq.symm (by exact neg_one hb2))) (by kernel_rfl) ?_
      exact Told.k (by kernel_rfl)
    · refine WO.sub 10 hb2 (by kernel_rfl) ?_
      refine WO.sub 11 hb2 (by kernel_rfl) ?_
      refine WO.fin (by kernel_rfl) ?_
      refine Told.put 4 (v := .bool false) (v' := .bool (negB p)) (congrArg _ (Eq.symm (by exact neg_zero hb2))) (by kernel_rfl) ?_
      exact Told.k (by kernel_rfl)
  · refine W.seqj (fun t => (S 65 ((some (.str (magB p))) :: none :: (some (.int .i64 0)) :: (some (.bool false)) :: (some (.bool (negB p))) :: none :: none :: none :: (t.g 8) :: (t.g 9) :: (t.g 10) :: (t.g 11) :: (t.g 12) :: (t.g 13) :: (t.g 14) :: (t.g 15) :: (t.g 16) :: (t.g 17) :: (t.g 18) :: none :: none :: none :: none :: none :: none :: none :: none :: none :: none :: none :: none :: none :: none :: none :: none :: none :: none :: none :: none :: none :: none :: none :: none :: none :: none :: none :: none :: none :: none :: none :: none :: none :: none :: none :: none :: none :: none :: none :: none :: none :: none :: none :: none :: none :: none :: []) (hpL []))) ?_ (fun t3 => ?_)
    · refine W.seq ?_
      refine W.region ?_
      refine WO.fin (by kernel_rfl) ?_
      refine W.cond (negB p) (by kernel_rfl) (fun hb4 => ?_) (fun hb4 => ?_)
      · refine W.sub 4 hb4 (by kernel_rfl) ?_
        refine W.sub 16 hb4 (by kernel_rfl) ?_
        refine W.region ?_
        refine WO.adv 1 (by kernel_rfl) ?_
        refine WO.opc (neg_cut (K := K) hb4) (by kernel_rfl) ?_
        refine WO.fin (by kernel_rfl) ?_
        refine Told.put 0 (v := .str (p.drop 1)) (v' := .str (magB p)) (congrArg _ (Eq.symm (by first | exact hb4 | (unfold magB; rw [hb4]; rfl)))) (by kernel_rfl) ?_
        refine Told.put 4 (v := .bool true) (v' := .bool (negB p)) (congrArg _ (Eq.symm (by first | exact hb4 | (unfold magB; rw [hb4]; rfl)))) (by kernel_rfl) ?_
        exact Told.k (by kernel_rfl)
      · refine W.sub 4 hb4 (by kernel_rfl) ?_
        refine W.sub 16 hb4 (by kernel_rfl) ?_
        refine W.skip ?_
        refine Told.put 0 (v := .str p) (v' := .str (magB p)) (congrArg _ (Eq.symm (by first | exact hb4 | (unfold magB; rw [hb4]; rfl)))) (by kernel_rfl) ?_
        refine Told.put 4 (v := .bool false) (v' := .bool (negB p)) (congrArg _ (Eq.symm (by first | exact hb4 | (unfold magB; rw [hb4]; rfl)))) (by kernel_rfl) ?_
        exact Told.k (by kernel_rfl)
    · refine W.seq ?_
      refine W.seq ?_
      refine W.region ?_
      refine WO.adv 3 (by kernel_rfl) ?_
      refine splitB (beqBytes (magB p) []) (fun hb5 => ?_) (fun hb5 => ?_)
      · refine WO.sub 20 hb5 (by kernel_rfl) ?_
        refine WO.sub 21 hb5 (by kernel_rfl) ?_
        refine WO.fin (by kernel_rfl) ?_
        refine W.cond true (by kernel_rfl) (fun _ => ?_) (fun h => by cases h)
        refine W.seq ?_
        refine W.region ?_
        refine WO.fin (by kernel_rfl) ?_
        refine W.ret ?_
        exact RetQ.k (v' := .tup [.int .i64 0, .bool false]) (by exact dec_bad (show badB p = true by rw [bad_eq, hb5]; rfl)) (by kernel_rfl) (by kernel_rfl)
      · refine WO.sub 20 hb5 (by kernel_rfl) ?_
        refine WO.sub 21 hb5 (by kernel_rfl) ?_
        refine WO.adv 1 (by kernel_rfl) ?_
        refine WO.opc (str_at (K := K) (s := (magB p)) (i := 0) (ne_pos hb5)) (by kernel_rfl) ?_
        refine WO.adv 2 (by kernel_rfl) ?_
        refine splitB (((((magB p).getD 0 0).toNat : Nat) : Int) == 48) (fun hb6 => ?_) (fun hb6 => ?_)
        · refine WO.sub 24 hb6 (by kernel_rfl) ?_
          refine WO.sub 25 hb6 (by kernel_rfl) ?_
          refine WO.adv 4 (by kernel_rfl) ?_
          refine splitB (decide (((lenN (magB p) : Nat) : Int) > 1)) (fun hb7 => ?_) (fun hb7 => ?_)
          · refine WO.sub 28 hb7 (by kernel_rfl) ?_
            refine WO.sub 29 hb7 (by kernel_rfl) ?_
            refine WO.fin (by kernel_rfl) ?_
            refine W.cond true (by kernel_rfl) (fun _ => ?_) (fun h => by cases h)
            refine W.seq ?_
            refine W.region ?_
            refine WO.fin (by kernel_rfl) ?_
            refine W.ret ?_
            exact RetQ.k (v' := .tup [.int .i64 0, .bool false]) (by exact dec_bad (show badB p = true by rw [bad_eq, hb5, hb6, hb7]; rfl)) (by kernel_rfl) (by kernel_rfl)
          · refine WO.sub 28 hb7 (by kernel_rfl) ?_
            refine WO.sub 29 hb7 (by kernel_rfl) ?_
            refine WO.fin (by kernel_rfl) ?_
            refine W.cond (negB p) (by kernel_rfl) (fun hb8 => ?_) (fun hb8 => ?_)
            · refine W.sub 4 hb8 (by kernel_rfl) ?_
              refine W.sub 30 hb8 (by kernel_rfl) ?_
              refine W.sub 31 hb8 (by kernel_rfl) ?_
              refine W.sub 32 hb8 (by kernel_rfl) ?_
              refine W.sub 33 hb8 (by kernel_rfl) ?_
              refine W.seq ?_
              refine W.region ?_
              refine WO.fin (by kernel_rfl) ?_
              refine W.ret ?_
              exact RetQ.k (v' := .tup [.int .i64 0, .bool false]) (by exact dec_bad (show badB p = true by rw [bad_eq, hb5, hb6, hb7, hb8]; rfl)) (by kernel_rfl) (by kernel_rfl)
            · refine W.sub 4 hb8 (by kernel_rfl) ?_
              refine W.sub 30 hb8 (by kernel_rfl) ?_
              refine W.sub 31 hb8 (by kernel_rfl) ?_
              refine W.sub 32 hb8 (by kernel_rfl) ?_
              refine W.sub 33 hb8 (by kernel_rfl) ?_
              refine W.skip ?_
              refine W.seq ?_
              refine W.region ?_
              refine WO.fin (by kernel_rfl) ?_
              refine W.seq ?_
              refine W.seq ?_
              refine W.region ?_
              refine WO.fin (by kernel_rfl) ?_
              refine W.block ?_
              refine W.loopc (len := lenN (magB p)) (fun i t => (S 65 ((some (.str (magB p))) :: none :: (t.g 2) :: (t.g 3) :: (some (.bool false)) :: (some (.int .i64 (-((valD 0 ((magB p).take i) : Nat) : Int)))) :: (some (.int .i64 ((i : Nat) : Int))) :: (t.g 7) :: (t.g 8) :: (t.g 9) :: (t.g 10) :: (t.g 11) :: (t.g 12) :: (t.g 13) :: (t.g 14) :: (t.g 15) :: (t.g 16) :: (t.g 17) :: (t.g 18) :: (some (.str (magB p))) :: (some (.bool false)) :: (some (.bool false)) :: (some (.str (magB p))) :: (some (.int .u8 ((((magB p).getD 0 0).toNat : Nat) : Int))) :: (some (.bool true)) :: (some (.bool true)) :: (some (.str (magB p))) :: (some (.int .i64 ((lenN (magB p) : Nat) : Int))) :: (some (.bool false)) :: (some (.bool false)) :: (some (.bool false)) :: (some (.bool false)) :: (some (.bool false)) :: (some (.bool false)) :: (t.g 34) :: (t.g 35) :: (t.g 36) :: (t.g 37) :: (t.g 38) :: (t.g 39) :: (t.g 40) :: (t.g 41) :: (t.g 42) :: (t.g 43) :: (t.g 44) :: (t.g 45) :: (t.g 46) :: (t.g 47) :: (t.g 48) :: (t.g 49) :: (t.g 50) :: (t.g 51) :: (t.g 52) :: (t.g 53) :: (t.g 54) :: (t.g 55) :: (t.g 56) :: (t.g 57) :: (t.g 58) :: none :: none :: none :: none :: none :: none :: []) (hpL []))) (fun i t => (digs 0 (magB p) = digs (valD 0 ((magB p).take i)) ((magB p).drop i) ∧ valD 0 ((magB p).take i) ≤ 9223372036854775808)) hlK ?_ ?_ ?_
              · refine Told.put 5 (show AV.int .i64 0 = AV.int .i64 (-((valD 0 ((magB p).take 0) : Nat) : Int)) from by rw [List.take_zero]; rfl) (by kernel_rfl) ?_; exact Told.k (by kernel_rfl)
              · exact ⟨rfl, by rw [List.take_zero]; exact Nat.zero_le _⟩
              · intro i9 t9 hi9 hI9
                refine W.seq ?_
                refine W.seq ?_
                refine W.region ?_
                refine WO.fin (by kernel_rfl) ?_
                refine W.cond (decide (((i9 : Nat) : Int) < ((lenN (magB p) : Nat) : Int))) (by kernel_rfl) (fun hb10 => ?_) (fun hb10 => ?_)
                · refine W.sub 37 hb10 (by kernel_rfl) ?_
                  refine W.skip ?_
                  refine W.seq ?_
                  refine W.block ?_
                  refine W.seq ?_
                  refine W.seq ?_
                  refine W.region ?_
                  refine WO.adv 2 (by kernel_rfl) ?_
                  refine WO.opc (str_at (K := K) (s := (magB p)) (i := i9) (lt_len hb10)) (by kernel_rfl) ?_
                  refine WO.callp (by kernel_rfl) (isDigit_c (n := m) (by omega) ((magB p).getD i9 0) _) ?_
                  refine WO.fin (by kernel_rfl) ?_
                  refine W.cond (!(isDg ((magB p).getD i9 0))) (by kernel_rfl) (fun hb11 => ?_) (fun hb11 => ?_)
                  · refine W.sub 44 hb11 (by kernel_rfl) ?_
                    refine W.seq ?_
                    refine W.region ?_
                    refine WO.fin (by kernel_rfl) ?_
                    refine W.ret ?_
                    exact RetQ.k (v' := .tup [.int .i64 0, .bool false]) (by exact dec_none (show badB p = false by rw [bad_eq, hb5, hb6, hb7, hb8]; rfl) (hI9.1.trans (digs_dg (lt_len hb10) (nb_t hb11) _))) (by kernel_rfl) (by kernel_rfl)
                  · refine W.sub 44 hb11 (by kernel_rfl) ?_
                    refine W.skip ?_
                    refine W.seq ?_
                    refine W.region ?_
                    refine WO.adv 2 (by kernel_rfl) ?_
                    refine WO.opc (str_at (K := K) (s := (magB p)) (i := i9) (lt_len hb10)) (by kernel_rfl) ?_
                    refine WO.adv 1 (by kernel_rfl) ?_
                    refine WO.opc (conv_dig (K := K) (c := ((magB p).getD i9 0)) (nb_f hb11)) (by kernel_rfl) ?_
                    refine WO.fin (by kernel_rfl) ?_
                    refine W.seq ?_
                    refine W.seq ?_
                    refine W.region ?_
                    refine WO.adv 3 (by kernel_rfl) ?_
                    refine WO.opc (quo_lim (K := K) (d := (((magB p).getD i9 0).toNat - 48)) (by have := dg_range (nb_f hb11); omega) true 3) (by kernel_rfl) ?_
                    refine WO.fin (by kernel_rfl) ?_
                    refine W.cond (decide ((-((valD 0 ((magB p).take i9) : Nat) : Int)) < (limD (((magB p).getD i9 0).toNat - 48)))) (by kernel_rfl) (fun hb12 => ?_) (fun hb12 => ?_)
                    · refine W.sub 54 hb12 (by kernel_rfl) ?_
                      refine W.seq ?_
                      refine W.region ?_
                      refine WO.fin (by kernel_rfl) ?_
                      refine W.ret ?_
                      exact RetQ.k (v' := .tup [.int .i64 0, .bool false]) (by exact dec_none (show badB p = false by rw [bad_eq, hb5, hb6, hb7, hb8]; rfl) (hI9.1.trans (digs_big (lt_len hb10) (nb_f hb11) (lim_true (by have := dg_range (nb_f hb11); omega) hb12)))) (by kernel_rfl) (by kernel_rfl)
                    · refine W.sub 54 hb12 (by kernel_rfl) ?_
                      refine W.skip ?_
                      refine W.region ?_
                      refine WO.fin (by kernel_rfl) ?_
                      refine W.region ?_
                      refine WO.fin (by kernel_rfl) ?_
                      have hlt : i9 < lenN (magB p) := ((lt_of_dec hb10))
                      refine ⟨hlt, ?_, ?_⟩
                      · exact ⟨hI9.1.trans (digs_at (lt_len hb10) (nb_f hb11) (by rw [val_take (lt_len hb10)]; exact (lim_false (by have := dg_range (nb_f hb11); omega) hb12))), by rw [val_take (lt_len hb10)]; exact (lim_false (by have := dg_range (nb_f hb11); omega) hb12)⟩
                      · refine Told.put 6 (wrapA hlt hlen) (by kernel_rfl) ?_
                        refine Told.put 5 (show AV.int .i64 (wrapF .i64 ((wrapF .i64 (10 * (-((valD 0 ((magB p).take i9) : Nat) : Int)))) - (((((magB p).getD i9 0).toNat - 48) : Nat) : Int))) = AV.int .i64 (-((valD 0 ((magB p).take (i9 + 1)) : Nat) : Int)) from congrArg (AV.int .i64) (by rw [val_take (lt_len hb10)]; exact acc_next (lim_false (by have := dg_range (nb_f hb11); omega) hb12))) (by kernel_rfl) ?_
                        exact Told.k (by kernel_rfl)
                · refine W.sub 37 hb10 (by kernel_rfl) ?_
                  refine W.exit ?_
                  refine blockQ ?_
                  refine W.seq ?_
                  refine W.seq ?_
                  refine W.region ?_
                  refine WO.fin (by kernel_rfl) ?_
                  refine W.cond false (by kernel_rfl) (fun h => by cases h) (fun _ => ?_)
                  refine W.skip ?_
                  refine W.seq ?_
                  refine W.region ?_
                  refine WO.adv 1 (by kernel_rfl) ?_
                  refine WO.opc (neg_any (x := (-((valD 0 ((magB p).take i9) : Nat) : Int)))) (by kernel_rfl) ?_
                  refine WO.fin (by kernel_rfl) ?_
                  refine W.ret ?_
                  exact RetQ.k (v' := .tup [.int .i64 (wrapF .i64 (0 - (-((valD 0 ((magB p).take i9) : Nat) : Int)))), .bool ((-((valD 0 ((magB p).take i9) : Nat) : Int)) != (-9223372036854775808))]) (by exact dec_pos (show badB p = false by rw [bad_eq, hb5, hb6, hb7, hb8]; rfl) (show digs 0 (magB p) = some (valD 0 ((magB p).take i9)) from by rw [hI9.1, (take_end hb10).2, digs_nil]) hb8 hI9.2) (by kernel_rfl) (by kernel_rfl)
        · refine WO.sub 24 hb6 (by kernel_rfl) ?_
          refine WO.sub 25 hb6 (by kernel_rfl) ?_
          refine WO.fin (by kernel_rfl) ?_
          refine W.cond false (by kernel_rfl) (fun h => by cases h) (fun _ => ?_)
          refine W.skip ?_
          refine W.seq ?_
          refine W.region ?_
          refine WO.fin (by kernel_rfl) ?_
          refine W.seq ?_
          refine W.seq ?_
          refine W.region ?_
          refine WO.fin (by kernel_rfl) ?_
          refine W.block ?_
          refine W.loopc (len := lenN (magB p)) (fun i t => (S 65 ((some (.str (magB p))) :: none :: (t.g 2) :: (t.g 3) :: (some (.bool (negB p))) :: (some (.int .i64 (-((valD 0 ((magB p).take i) : Nat) : Int)))) :: (some (.int .i64 ((i : Nat) : Int))) :: (t.g 7) :: (t.g 8) :: (t.g 9) :: (t.g 10) :: (t.g 11) :: (t.g 12) :: (t.g 13) :: (t.g 14) :: (t.g 15) :: (t.g 16) :: (t.g 17) :: (t.g 18) :: (some (.str (magB p))) :: (some (.bool false)) :: (some (.bool false)) :: (some (.str (magB p))) :: (some (.int .u8 ((((magB p).getD 0 0).toNat : Nat) : Int))) :: (some (.bool false)) :: (some (.bool false)) :: (some (.tup [])) :: (some (.tup [])) :: (some (.tup [])) :: (some (.tup [])) :: (some (.tup [])) :: (some (.tup [])) :: (some (.bool false)) :: (some (.bool false)) :: (t.g 34) :: (t.g 35) :: (t.g 36) :: (t.g 37) :: (t.g 38) :: (t.g 39) :: (t.g 40) :: (t.g 41) :: (t.g 42) :: (t.g 43) :: (t.g 44) :: (t.g 45) :: (t.g 46) :: (t.g 47) :: (t.g 48) :: (t.g 49) :: (t.g 50) :: (t.g 51) :: (t.g 52) :: (t.g 53) :: (t.g 54) :: (t.g 55) :: (t.g 56) :: (t.g 57) :: (t.g 58) :: none :: none :: none :: none :: none :: none :: []) (hpL []))) (fun i t => (digs 0 (magB p) = digs (valD 0 ((magB p).take i)) ((magB p).drop i) ∧ valD 0 ((magB p).take i) ≤ 9223372036854775808)) hlK ?_ ?_ ?_
          · refine Told.put 5 (show AV.int .i64 0 = AV.int .i64 (-((valD 0 ((magB p).take 0) : Nat) : Int)) from by rw [List.take_zero]; rfl) (by kernel_rfl) ?_; exact Told.k (by kernel_rfl)
          · exact ⟨rfl, by rw [List.take_zero]; exact Nat.zero_le _⟩
          · intro i13 t13 hi13 hI13
            refine W.seq ?_
            refine W.seq ?_
            refine W.region ?_
            refine WO.fin (by kernel_rfl) ?_
            refine W.cond (decide (((i13 : Nat) : Int) < ((lenN (magB p) : Nat) : Int))) (by kernel_rfl) (fun hb14 => ?_) (fun hb14 => ?_)
            · refine W.sub 37 hb14 (by kernel_rfl) ?_
              refine W.skip ?_
              refine W.seq ?_
              refine W.block ?_
              refine W.seq ?_
              refine W.seq ?_
              refine W.region ?_
              refine WO.adv 2 (by kernel_rfl) ?_
              refine WO.opc (str_at (K := K) (s := (magB p)) (i := i13) (lt_len hb14)) (by kernel_rfl) ?_
              refine WO.callp (by kernel_rfl) (isDigit_c (n := m) (by omega) ((magB p).getD i13 0) _) ?_
              refine WO.fin (by kernel_rfl) ?_
              refine W.cond (!(isDg ((magB p).getD i13 0))) (by kernel_rfl) (fun hb15 => ?_) (fun hb15 => ?_)
              · refine W.sub 44 hb15 (by kernel_rfl) ?_
                refine W.seq ?_
                refine W.region ?_
                refine WO.fin (by kernel_rfl) ?_
                refine W.ret ?_
                exact RetQ.k (v' := .tup [.int .i64 0, .bool false]) (by exact dec_none (show badB p = false by rw [bad_eq, hb5, hb6]; rfl) (hI13.1.trans (digs_dg (lt_len hb14) (nb_t hb15) _))) (by kernel_rfl) (by kernel_rfl)
              · refine W.sub 44 hb15 (by kernel_rfl) ?_
                refine W.skip ?_
                refine W.seq ?_
                refine W.region ?_
                refine WO.adv 2 (by kernel_rfl) ?_
                refine WO.opc (str_at (K := K) (s := (magB p)) (i := i13) (lt_len hb14)) (by kernel_rfl) ?_
                refine WO.adv 1 (by kernel_rfl) ?_
                refine WO.opc (conv_dig (K := K) (c := ((magB p).getD i13 0)) (nb_f hb15)) (by kernel_rfl) ?_
                refine WO.fin (by kernel_rfl) ?_
                refine W.seq ?_
                refine W.seq ?_
                refine W.region ?_
                refine WO.adv 3 (by kernel_rfl) ?_
                refine WO.opc (quo_lim (K := K) (d := (((magB p).getD i13 0).toNat - 48)) (by have := dg_range (nb_f hb15); omega) true 3) (by kernel_rfl) ?_
                refine WO.fin (by kernel_rfl) ?_
                refine W.cond (decide ((-((valD 0 ((magB p).take i13) : Nat) : Int)) < (limD (((magB p).getD i13 0).toNat - 48)))) (by kernel_rfl) (fun hb16 => ?_) (fun hb16 => ?_)
                · refine W.sub 54 hb16 (by kernel_rfl) ?_
                  refine W.seq ?_
                  refine W.region ?_
                  refine WO.fin (by kernel_rfl) ?_
                  refine W.ret ?_
                  exact RetQ.k (v' := .tup [.int .i64 0, .bool false]) (by exact dec_none (show badB p = false by rw [bad_eq, hb5, hb6]; rfl) (hI13.1.trans (digs_big (lt_len hb14) (nb_f hb15) (lim_true (by have := dg_range (nb_f hb15); omega) hb16)))) (by kernel_rfl) (by kernel_rfl)
                · refine W.sub 54 hb16 (by kernel_rfl) ?_
                  refine W.skip ?_
                  refine W.region ?_
                  refine WO.fin (by kernel_rfl) ?_
                  refine W.region ?_
                  refine WO.fin (by kernel_rfl) ?_
                  have hlt : i13 < lenN (magB p) := ((lt_of_dec hb14))
                  refine ⟨hlt, ?_, ?_⟩
                  · exact ⟨hI13.1.trans (digs_at (lt_len hb14) (nb_f hb15) (by rw [val_take (lt_len hb14)]; exact (lim_false (by have := dg_range (nb_f hb15); omega) hb16))), by rw [val_take (lt_len hb14)]; exact (lim_false (by have := dg_range (nb_f hb15); omega) hb16)⟩
                  · refine Told.put 6 (wrapA hlt hlen) (by kernel_rfl) ?_
                    refine Told.put 5 (show AV.int .i64 (wrapF .i64 ((wrapF .i64 (10 * (-((valD 0 ((magB p).take i13) : Nat) : Int)))) - (((((magB p).getD i13 0).toNat - 48) : Nat) : Int))) = AV.int .i64 (-((valD 0 ((magB p).take (i13 + 1)) : Nat) : Int)) from congrArg (AV.int .i64) (by rw [val_take (lt_len hb14)]; exact acc_next (lim_false (by have := dg_range (nb_f hb15); omega) hb16))) (by kernel_rfl) ?_
                    exact Told.k (by kernel_rfl)
            · refine W.sub 37 hb14 (by kernel_rfl) ?_
              refine W.exit ?_
              refine blockQ ?_
              refine W.seq ?_
              refine W.seq ?_
              refine W.region ?_
              refine WO.fin (by kernel_rfl) ?_
              refine W.cond (negB p) (by kernel_rfl) (fun hb17 => ?_) (fun hb17 => ?_)
              · refine W.sub 4 hb17 (by kernel_rfl) ?_
                refine W.sub 59 hb17 (by kernel_rfl) ?_
                refine W.seq ?_
                refine W.region ?_
                refine WO.fin (by kernel_rfl) ?_
                refine W.ret ?_
                exact RetQ.k (v' := .tup [.int .i64 (-((valD 0 ((magB p).take i13) : Nat) : Int)), .bool true]) (by exact dec_neg (show badB p = false by rw [bad_eq, hb5, hb6, hb17]; rfl) (show digs 0 (magB p) = some (valD 0 ((magB p).take i13)) from by rw [hI13.1, (take_end hb14).2, digs_nil]) hb17) (by kernel_rfl) (by kernel_rfl)
              · refine W.sub 4 hb17 (by kernel_rfl) ?_
                refine W.sub 59 hb17 (by kernel_rfl) ?_
                refine W.skip ?_
                refine W.seq ?_
                refine W.region ?_
                refine WO.adv 1 (by kernel_rfl) ?_
                refine WO.opc (neg_any (x := (-((valD 0 ((magB p).take i13) : Nat) : Int)))) (by kernel_rfl) ?_
                refine WO.fin (by kernel_rfl) ?_
                refine W.ret ?_
                exact RetQ.k (v' := .tup [.int .i64 (wrapF .i64 (0 - (-((valD 0 ((magB p).take i13) : Nat) : Int)))), .bool ((-((valD 0 ((magB p).take i13) : Nat) : Int)) != (-9223372036854775808))]) (by exact dec_pos (show badB p = false by rw [bad_eq, hb5, hb6, hb17]; rfl) (show digs 0 (magB p) = some (valD 0 ((magB p).take i13)) from by rw [hI13.1, (take_end hb14).2, digs_nil]) hb17 hI13.2) (by kernel_rfl) (by kernel_rfl)

end
end Go.Abs
namespace Go.Abs
noncomputable section
open Go Go.Proofs
variable {K : Nat}
/-! ## The reference's reader: the whole line, a place, and whether it is bad -/
def atN (s : List UInt8) (st : RS) : Nat := s.length - st.1.length
section
variable {s : List UInt8} {st : RS} {i n : Nat} {w : Bool}
theorem at_le : atN s st ≤ s.length := Nat.sub_le _ _
theorem suf_len (hs : st.1 <:+ s) : atN s st + st.1.length = s.length := by
  have := hs.length_le
  unfold atN; omega
theorem suf_drop (hs : st.1 <:+ s) : s.drop (atN s st) = st.1 := (List.suffix_iff_eq_drop.1 hs).symm
theorem at_get (hs : st.1 <:+ s) (i : Nat) : s.getD (atN s st + i) 0 = st.1.getD i 0 := by
  have e := suf_drop hs
  rw [List.getD_eq_getElem?_getD, List.getD_eq_getElem?_getD, ← e, List.getElem?_drop]
theorem at_drop (hs : st.1 <:+ s) (hn : n ≤ st.1.length) : atN s (st.1.drop n, w) = atN s st + n := by
  have := hs.length_le
  unfold atN
  simp only [List.length_drop]; omega
theorem suf_of_drop (hs : st.1 <:+ s) (n : Nat) : st.1.drop n <:+ s := (List.drop_suffix n st.1).trans hs
theorem rTake_suf (hs : st.1 <:+ s) (c : UInt8) : (rTake c st).1 <:+ s := by
  unfold rTake
  cases st.2 || !(decide (st.1.head? = some c)) with
  | true => exact hs
  | false => exact suf_of_drop hs 1
theorem rNum_suf (hs : st.1 <:+ s) : (rNum st).2.1 <:+ s := suf_of_drop hs _
theorem rCount_suf (hs : st.1 <:+ s) (L : Nat) : (rCount L st).2.1 <:+ s := by
  unfold rCount
  cases decide (0 ≤ (rNum st).1) && decide ((rNum st).1 ≤ ((L : Nat) : Int)) with
  | true => exact rNum_suf hs
  | false => exact rNum_suf hs
theorem rText_suf (hs : st.1 <:+ s) (L : Nat) : (rText L st).2.1 <:+ s := by
  have h := rTake_suf (rCount_suf hs L) 58
  unfold rText
  cases (rTake 58 (rCount L st).2).2 || decide ((rCount L st).1 > (((rTake 58 (rCount L st).2).1.length : Nat) : Int)) with
  | true => exact h
  | false => exact suf_of_drop h _
theorem rName_suf (hs : st.1 <:+ s) (L : Nat) : (rName L st).2.1 <:+ s := rText_suf (rTake_suf hs 44) L

/-! ### a character that must come -/
theorem head_at (hs : st.1 <:+ s) (c : UInt8) : (!(decide (st.1.head? = some c))) = (decide (((atN s st : Nat) : Int) ≥ ((lenN s : Nat) : Int)) || ((((s.getD (atN s st) 0).toNat : Nat) : Int) != ((c.toNat : Nat) : Int))) := by
  have h1 := suf_len hs
  have h2 := at_get hs 0
  rw [Nat.add_zero] at h2
  rw [h2, lenN_eq]
  cases hr : st.1 with
  | nil =>
    rw [hr] at h1
    rw [show decide (((atN s st : Nat) : Int) ≥ ((s.length : Nat) : Int)) = true from decide_eq_true (by simp only [List.length_nil] at h1; omega)]
    rfl
  | cons a l =>
    rw [hr] at h1
    rw [show decide (((atN s st : Nat) : Int) ≥ ((s.length : Nat) : Int)) = false from decide_eq_false (by simp only [List.length_cons] at h1; omega), Bool.false_or]
    show (!(decide (some a = some c))) = ((((a.toNat : Nat) : Int)) != ((c.toNat : Nat) : Int))
    by_cases h : a = c
    · subst h; simp
    · rw [decide_eq_false (by simpa using h)]
      exact (bne_iff_ne.2 fun e => h (UInt8.toNat_inj.1 (by omega))).symm
theorem take_bad {c : UInt8} (hs : st.1 <:+ s) (h : (st.2 || (decide (((atN s st : Nat) : Int) ≥ ((lenN s : Nat) : Int)) || ((((s.getD (atN s st) 0).toNat : Nat) : Int) != ((c.toNat : Nat) : Int)))) = true) : rTake c st = (st.1, true) := by
  rw [← head_at hs c] at h
  unfold rTake; rw [h]; rfl
theorem take_ok {c : UInt8} (hs : st.1 <:+ s) (h : (st.2 || (decide (((atN s st : Nat) : Int) ≥ ((lenN s : Nat) : Int)) || ((((s.getD (atN s st) 0).toNat : Nat) : Int) != ((c.toNat : Nat) : Int)))) = false) : rTake c st = (st.1.drop 1, st.2) ∧ atN s (st.1.drop 1, st.2) = atN s st + 1 := by
  have h0 := h
  rw [← head_at hs c] at h
  refine ⟨by unfold rTake; rw [h]; rfl, at_drop hs ?_⟩
  rw [Bool.or_eq_false_iff, Bool.or_eq_false_iff] at h0
  have h3 := of_decide_eq_false h0.2.1
  rw [lenN_eq] at h3
  have := suf_len hs
  omega

/-! ### numbers -/
theorem tw_go {p : UInt8 → Bool} : ∀ {l : List UInt8} {j : Nat}, j ≤ (l.takeWhile p).length → (decide (j < l.length) && p (l.getD j 0)) = decide (j < (l.takeWhile p).length)
  | [], j, h => by
    have h : j ≤ 0 := h
    have : j = 0 := by omega
    subst this; rfl
  | a :: l, 0, h => by
    rw [List.takeWhile_cons]
    cases hp : p a with
    | true => simp [hp]
    | false => simp [hp]
  | a :: l, j + 1, h => by
    rw [List.takeWhile_cons] at h ⊢
    cases hp : p a with
    | true =>
      rw [hp] at h
      have h : j + 1 ≤ (l.takeWhile p).length + 1 := h
      have ih := tw_go (p := p) (l := l) (j := j) (by omega)
      show (decide (j + 1 < l.length + 1) && p (l.getD j 0)) = decide (j + 1 < (l.takeWhile p).length + 1)
      rw [show decide (j + 1 < l.length + 1) = decide (j < l.length) from decide_eq_decide.2 (by omega), ih]
      exact decide_eq_decide.2 (by omega)
    | false => rw [hp] at h; have h : j + 1 ≤ 0 := h; omega
def spanc (r : List UInt8) (i : Nat) : Bool := decide (i < r.length) && (isDg (r.getD i 0) || (decide (i = 0) && decide (r.getD i 0 = 45)))
theorem span_go : ∀ {r : List UInt8} {i : Nat}, i ≤ (spanR r).length → spanc r i = decide (i < (spanR r).length)
  | [], i, h => by
    have h : i ≤ 0 := h
    have : i = 0 := by omega
    subst this; rfl
  | c :: l, i, h => by
    by_cases hc : c = 45
    · subst hc
      rw [spanR_neg] at h ⊢
      cases i with
      | zero => simp [spanc]
      | succ j =>
        have h : j + 1 ≤ (l.takeWhile isDg).length + 1 := h
        have ih := tw_go (p := isDg) (l := l) (j := j) (by omega)
        show (decide (j + 1 < l.length + 1) && (isDg (l.getD j 0) || (decide (j + 1 = 0) && _))) = decide (j + 1 < (l.takeWhile isDg).length + 1)
        rw [show decide (j + 1 = 0) = false from decide_eq_false (by omega), Bool.false_and, Bool.or_false, show decide (j + 1 < l.length + 1) = decide (j < l.length) from decide_eq_decide.2 (by omega), ih]
        exact decide_eq_decide.2 (by omega)
    · rw [spanR_pos l hc] at h ⊢
      rw [← tw_go h]
      unfold spanc
      cases i with
      | zero =>
        have e : decide ((c :: l).getD 0 0 = 45) = false := decide_eq_false hc
        rw [e, Bool.and_false, Bool.or_false]
      | succ j =>
        rw [show decide (j + 1 = 0) = false from decide_eq_false (by omega), Bool.false_and, Bool.or_false]
theorem num_go (hs : st.1 <:+ s) (hi : i ≤ (spanR st.1).length) : (decide (((atN s st + i : Nat) : Int) < ((lenN s : Nat) : Int)) && (isDg (s.getD (atN s st + i) 0) || ((((atN s st + i : Nat) : Int) == ((atN s st : Nat) : Int)) && ((((s.getD (atN s st + i) 0).toNat : Nat) : Int) == 45)))) = decide (i < (spanR st.1).length) := by
  rw [← span_go hi, at_get hs i, lenN_eq]
  unfold spanc
  have h1 := suf_len hs
  have e1 : decide (((atN s st + i : Nat) : Int) < ((s.length : Nat) : Int)) = decide (i < st.1.length) := decide_eq_decide.2 (by omega)
  have e2 : (((atN s st + i : Nat) : Int) == ((atN s st : Nat) : Int)) = decide (i = 0) := by
    by_cases h : i = 0
    · subst h; simp
    · rw [decide_eq_false h]
      cases hh : (((atN s st + i : Nat) : Int) == ((atN s st : Nat) : Int)) with
      | false => rfl
      | true => have := eq_of_beq hh; omega
  have e3 : ((((st.1.getD i 0).toNat : Nat) : Int) == 45) = decide (st.1.getD i 0 = 45) := byte_eq (n := 45) (by omega)
  rw [e1, e2, e3]
theorem span_le (r : List UInt8) : (spanR r).length ≤ r.length := by
  obtain ⟨k, hk, _⟩ := spanR_pre r
  have := congrArg List.length hk
  rw [List.length_append] at this
  omega
theorem span_take (r : List UInt8) : r.take (spanR r).length = spanR r := by
  obtain ⟨k, hk, _⟩ := spanR_pre r
  have h1 : r.take (spanR r).length = (spanR r ++ k).take (spanR r).length := congrArg (fun z => List.take (spanR r).length z) hk
  rw [h1, List.take_left]
theorem num_slice (hs : st.1 <:+ s) (hp : Heap) : keep hp (opSlice (Cg K) hp 9 (.str s) (some (.int .i64 ((atN s st : Nat) : Int))) (some (.int .i64 ((atN s st + (spanR st.1).length : Nat) : Int))) none) = some (.str (spanR st.1), hp) := by
  have h1 := suf_len hs
  have h2 := span_le st.1
  rw [str_mid (by omega) (by omega) (by omega), Int.toNat_natCast, Int.toNat_natCast, suf_drop hs, show atN s st + (spanR st.1).length - atN s st = (spanR st.1).length by omega, span_take]
theorem num_at (hs : st.1 <:+ s) : atN s (rNum st).2 = atN s st + (spanR st.1).length := at_drop hs (span_le st.1)

/-! ### texts with a length -/
theorem count_bad (h : withinB (rNum st).1 0 ((lenN s : Nat) : Int) = false) : rCount s.length st = (0, ((rNum st).2.1, true)) := by
  unfold withinB at h
  rw [lenN_eq] at h
  unfold rCount
  rw [show (decide (0 ≤ (rNum st).1) && decide ((rNum st).1 ≤ ((s.length : Nat) : Int))) = false from h]; rfl
theorem count_ok (h : withinB (rNum st).1 0 ((lenN s : Nat) : Int) = true) : rCount s.length st = rNum st := by
  unfold withinB at h
  rw [lenN_eq] at h
  unfold rCount
  rw [show (decide (0 ≤ (rNum st).1) && decide ((rNum st).1 ≤ ((s.length : Nat) : Int))) = true from h]; rfl
def tX (L : Nat) (st : RS) : RS := rTake 58 (rCount L st).2
theorem tX_suf (hs : st.1 <:+ s) (L : Nat) : (tX L st).1 <:+ s := rTake_suf (rCount_suf hs L) 58
theorem rest_len (hs : st.1 <:+ s) (hl : s.length ≤ 4000) : wrapF .i64 (((lenN s : Nat) : Int) - ((atN s st : Nat) : Int)) = ((st.1.length : Nat) : Int) := by
  have h1 := suf_len hs
  rw [lenN_eq, wrap_in (inR64_of (by omega) (by omega))]; omega
theorem text_bad {L : Nat} (h : ((tX L st).2 || decide ((rCount L st).1 > (((tX L st).1.length : Nat) : Int))) = true) : rText L st = ([], ((tX L st).1, true)) := by
  unfold tX at h
  unfold rText
  rw [h]; rfl
theorem text_ok {L : Nat} (h : ((tX L st).2 || decide ((rCount L st).1 > (((tX L st).1.length : Nat) : Int))) = false) : rText L st = ((tX L st).1.take (rCount L st).1.toNat, ((tX L st).1.drop (rCount L st).1.toNat, (tX L st).2)) := by
  unfold tX at h
  unfold rText
  rw [h]; rfl
theorem text_at {x : RS} {n : Int} (hs : x.1 <:+ s) (hl : s.length ≤ 4000) (h0 : 0 ≤ n) (h1 : n ≤ ((x.1.length : Nat) : Int)) {w : Bool} : wrapF .i64 (((atN s x : Nat) : Int) + n) = ((atN s (x.1.drop n.toNat, w) : Nat) : Int) := by
  have h2 := suf_len hs
  rw [at_drop hs (by omega), wrap_in (inR64_of (by omega) (by omega))]; omega
theorem text_slice {x : RS} {n : Int} (hs : x.1 <:+ s) (hl : s.length ≤ 4000) (h0 : 0 ≤ n) (h1 : n ≤ ((x.1.length : Nat) : Int)) (hp : Heap) :
    keep hp (opSlice (Cg K) hp 9 (.str s) (some (.int .i64 (wrapF .i64 (wrapF .i64 (((atN s x : Nat) : Int) + n) - n)))) (some (.int .i64 (wrapF .i64 (((atN s x : Nat) : Int) + n)))) none) = some (.str (x.1.take n.toNat), hp) := by
  have h2 := suf_len hs
  have e1 : wrapF .i64 (((atN s x : Nat) : Int) + n) = ((atN s x : Nat) : Int) + n := wrap_in (inR64_of (by omega) (by omega))
  have e2 : wrapF .i64 ((((atN s x : Nat) : Int) + n) - n) = ((atN s x : Nat) : Int) := by rw [wrap_in (inR64_of (by omega) (by omega))]; omega
  rw [e1, e2, str_mid (by omega) (by omega) (by omega), Int.toNat_natCast, suf_drop hs, show (((atN s x : Nat) : Int) + n).toNat - atN s x = n.toNat by omega]
end
end
end Go.Abs
namespace Go.Abs
noncomputable section
open Go Go.Proofs
variable {K : Nat}
theorem at_next {a : Nat} (h : a ≤ 4000) : wrapF .i64 (((a : Nat) : Int) + 1) = ((a + 1 : Nat) : Int) := by rw [wrap_in (inR64_of (by omega) (by omega))]; omega
theorem num_end {s : List UInt8} {st : RS} {i : Nat} (hs : st.1 <:+ s) (hi : i ≤ (spanR st.1).length) (h : (decide (((atN s st + i : Nat) : Int) < ((lenN s : Nat) : Int)) && (isDg (s.getD (atN s st + i) 0) || ((((atN s st + i : Nat) : Int) == ((atN s st : Nat) : Int)) && ((((s.getD (atN s st + i) 0).toNat : Nat) : Int) == 45)))) = false) : i = (spanR st.1).length := by
  rw [num_go hs hi] at h
  have := of_decide_eq_false h
  omega
theorem num_lt {s : List UInt8} {st : RS} {i : Nat} (hs : st.1 <:+ s) (hi : i ≤ (spanR st.1).length) (h : (decide (((atN s st + i : Nat) : Int) < ((lenN s : Nat) : Int)) && (isDg (s.getD (atN s st + i) 0) || ((((atN s st + i : Nat) : Int) == ((atN s st : Nat) : Int)) && ((((s.getD (atN s st + i) 0).toNat : Nat) : Int) == 45)))) = true) : i < (spanR st.1).length := by
  rw [num_go hs hi] at h
  exact of_decide_eq_true h
theorem span_small {s : List UInt8} {st : RS} (hs : st.1 <:+ s) (hl : s.length ≤ 4000) : (spanR st.1).length ≤ 4000 := Nat.le_trans (span_le _) (Nat.le_trans hs.length_le hl)
theorem at_small {s : List UInt8} {st : RS} {i : Nat} (hs : st.1 <:+ s) (hl : s.length ≤ 4000) (hi : i < (spanR st.1).length) : atN s st + i ≤ 4000 := by
  have h1 := suf_len hs
  have h2 := span_le st.1
  omega
theorem in_str {s : List UInt8} {a : Nat} (h : decide (((a : Nat) : Int) < ((lenN s : Nat) : Int)) = true) : a < s.length := by
  have h := of_decide_eq_true h
  rw [lenN_eq] at h; omega
theorem in_str2 {s : List UInt8} {a : Nat} (h : decide (((a : Nat) : Int) ≥ ((lenN s : Nat) : Int)) = false) : a < s.length := by
  have h := of_decide_eq_false h
  rw [lenN_eq] at h; omega
set_option maxRecDepth 20000 in
theorem rdTake_c {n : Nat}  (hn : 1 ≤ n) (s : List UInt8) (st : RS) (c : UInt8) (hl : s.length ≤ 4000) (hs : st.1 <:+ s) {i g ver : Nat} {h : Heap} (hg : h.get i = some (bk g 90 true ver [.str s, .int .i64 ((atN s st : Nat) : Int), .bool st.2])) :
    (fns (Cg K) n).call 49 ((.ptrO i 0) :: (.int .u8 ((c.toNat : Nat) : Int)) :: []) h none = some (.val (.tup []) (h.set i (bk g 90 true (Nat.succ ver) [.str s, .int .i64 ((atN s (rTake c st) : Nat) : Int), .bool (rTake c st).2])) none) := by
  obtain ⟨m, rfl⟩ : ∃ m, n = m + 1 := ⟨n - 1, by omega⟩
  refine ownq (y := (.ptrO 0 0)) (C := Cg K) (F := fns (Cg K) m) (fn := Tryz.f49) (c := bodyOf Tryz.f49) (by kernel_rfl) (by kernel_rfl) (by kernel_rfl) hg (by kernel_rfl) (by kernel_rfl) (by kernel_rfl) (by kernel_rfl) (by kernel_rfl) (by kernel_rfl) (by kernel_rfl) ?_
  refine W.seq ?_
  refine W.seq ?_
  refine W.drawn2 (by kernel_rfl) ?_
  refine WE.adv (j' := 5) 5 (by kernel_rfl) (by kernel_rfl) ?_
  refine splitB st.2 (fun hb1 => ?_) (fun hb1 => ?_)
  · refine WE.sub 7 hb1 (by kernel_rfl) ?_
    refine WE.sub 8 hb1 (by kernel_rfl) ?_
    refine WE.fin (by kernel_rfl) ?_
    refine W.cond true (by kernel_rfl) (fun _ => ?_) (fun h => by cases h)
    refine W.seq ?_
    refine W.region ?_
    refine WO.fin (by kernel_rfl) ?_
    refine W.ret ?_
    exact RetO.k (v' := .tup []) (cs' := [.str s, .int .i64 ((atN s st : Nat) : Int), .bool true]) (ver := 1) (by rfl) (by rw [take_bad hs (by rw [hb1]; rfl)]; rfl) (by kernel_rfl) (by kernel_rfl) (by kernel_rfl)
  · refine WE.sub 7 hb1 (by kernel_rfl) ?_
    refine WE.sub 8 hb1 (by kernel_rfl) ?_
    refine WE.adv (j' := 17) 12 (by kernel_rfl) (by kernel_rfl) ?_
    refine splitB (decide (((atN s st : Nat) : Int) ≥ ((lenN s : Nat) : Int))) (fun hb2 => ?_) (fun hb2 => ?_)
    · refine WE.sub 18 hb2 (by kernel_rfl) ?_
      refine WE.sub 19 hb2 (by kernel_rfl) ?_
      refine WE.sub 20 hb2 (by kernel_rfl) ?_
      refine WE.fin (by kernel_rfl) ?_
      refine W.cond true (by kernel_rfl) (fun _ => ?_) (fun h => by cases h)
      refine W.seq ?_
      refine W.region ?_
      refine WO.fin (by kernel_rfl) ?_
      refine W.ret ?_
      exact RetO.k (v' := .tup []) (cs' := [.str s, .int .i64 ((atN s st : Nat) : Int), .bool true]) (ver := 1) (by rfl) (by rw [take_bad hs (by rw [hb1, hb2]; rfl)]; rfl) (by kernel_rfl) (by kernel_rfl) (by kernel_rfl)
    · refine WE.sub 18 hb2 (by kernel_rfl) ?_
      refine WE.sub 19 hb2 (by kernel_rfl) ?_
      refine WE.sub 20 hb2 (by kernel_rfl) ?_
      refine WE.adv (j' := 25) 8 (by kernel_rfl) (by kernel_rfl) ?_
      refine WE.opq (str_at (K := K) (s := s) (i := atN s st) (in_str2 hb2)) (by kernel_rfl) (by kernel_rfl) ?_
      refine WE.fin (by kernel_rfl) ?_
      refine W.cond ((((s.getD (atN s st) 0).toNat : Nat) : Int) != ((c.toNat : Nat) : Int)) (by kernel_rfl) (fun hb3 => ?_) (fun hb3 => ?_)
      · refine W.sub 31 hb3 (by kernel_rfl) ?_
        refine W.sub 32 hb3 (by kernel_rfl) ?_
        refine W.seq ?_
        refine W.region ?_
        refine WO.fin (by kernel_rfl) ?_
        refine W.ret ?_
        exact RetO.k (v' := .tup []) (cs' := [.str s, .int .i64 ((atN s st : Nat) : Int), .bool true]) (ver := 1) (by rfl) (by rw [take_bad hs (by rw [hb1, hb2, hb3]; rfl)]; rfl) (by kernel_rfl) (by kernel_rfl) (by kernel_rfl)
      · refine W.sub 31 hb3 (by kernel_rfl) ?_
        refine W.sub 32 hb3 (by kernel_rfl) ?_
        refine W.skip ?_
        refine W.region ?_
        refine WO.fin (by kernel_rfl) ?_
        exact RetO.kn (v' := .tup []) (cs' := [.str s, .int .i64 (wrapF .i64 (((atN s st : Nat) : Int) + 1)), .bool st.2]) (ver := 1) (by rfl) (by rw [(take_ok (c := c) hs (by rw [hb1, hb2, hb3]; rfl)).1, (take_ok (c := c) hs (by rw [hb1, hb2, hb3]; rfl)).2, at_next (Nat.le_trans at_le hl)]) (by kernel_rfl) (by kernel_rfl) (by kernel_rfl)

set_option maxRecDepth 20000 in
theorem rdNum_c {n : Nat}  (hn : 3 ≤ n) (s : List UInt8) (st : RS) (hl : s.length ≤ 4000) (hK : big ≤ K) (hs : st.1 <:+ s) {i g ver : Nat} {h : Heap} (hg : h.get i = some (bk g 90 true ver [.str s, .int .i64 ((atN s st : Nat) : Int), .bool st.2])) :
    (fns (Cg K) n).call 48 ((.ptrO i 0) :: []) h none = some (.val (.int .i64 (rNum st).1) (h.set i (bk g 90 true (Nat.succ ver) [.str s, .int .i64 ((atN s (rNum st).2 : Nat) : Int), .bool (rNum st).2.2])) none) := by
  obtain ⟨m, rfl⟩ : ∃ m, n = m + 1 := ⟨n - 1, by omega⟩
  have hlK : (spanR st.1).length < (Cg K).loops := by have := span_small hs hl; rw [loops_eq]; unfold big at hK; omega
  refine ownq (y := (.ptrO 0 0)) (C := Cg K) (F := fns (Cg K) m) (fn := Tryz.f48) (c := bodyOf Tryz.f48) (by kernel_rfl) (by kernel_rfl) (by kernel_rfl) hg (by kernel_rfl) (by kernel_rfl) (by kernel_rfl) (by kernel_rfl) (by kernel_rfl) (by kernel_rfl) (by kernel_rfl) ?_
  refine W.seq ?_
  refine W.region ?_
  refine WO.fin (by kernel_rfl) ?_
  refine W.seq ?_
  refine W.region ?_
  refine WO.fin (by kernel_rfl) ?_
  refine W.seq ?_
  refine W.block ?_
  refine W.loopc (len := (spanR st.1).length) (fun i t => (S 86 ((some (.ptrO 0 0)) :: none :: (some (.int .i64 0)) :: (some (.int .i64 ((atN s st : Nat) : Int))) :: none :: none :: (some (.ptrO 0 0)) :: (some (.ptrO 0 0)) :: (some (.ptrO 0 1)) :: (some (.int .i64 ((atN s st : Nat) : Int))) :: (t.g 10) :: (t.g 11) :: (t.g 12) :: (t.g 13) :: (t.g 14) :: (t.g 15) :: (t.g 16) :: (t.g 17) :: (t.g 18) :: (t.g 19) :: (t.g 20) :: (t.g 21) :: (t.g 22) :: (t.g 23) :: (t.g 24) :: (t.g 25) :: (t.g 26) :: (t.g 27) :: (t.g 28) :: (t.g 29) :: (t.g 30) :: (t.g 31) :: (t.g 32) :: (t.g 33) :: (t.g 34) :: (t.g 35) :: (t.g 36) :: (t.g 37) :: (t.g 38) :: (t.g 39) :: (t.g 40) :: (t.g 41) :: (t.g 42) :: (t.g 43) :: (t.g 44) :: (t.g 45) :: (t.g 46) :: (t.g 47) :: (t.g 48) :: (t.g 49) :: (t.g 50) :: (t.g 51) :: (t.g 52) :: (t.g 53) :: (t.g 54) :: (t.g 55) :: (t.g 56) :: (t.g 57) :: (t.g 58) :: (t.g 59) :: none :: none :: none :: none :: none :: none :: none :: none :: none :: none :: none :: none :: none :: none :: none :: none :: none :: none :: none :: none :: none :: none :: none :: none :: none :: none :: []) (hpL [bk 0 90 true (t.vr 0) [.str s, .int .i64 ((atN s st + i : Nat) : Int), .bool st.2]]))) (fun i t => (i ≤ (spanR st.1).length)) hlK ?_ ?_ ?_
  · refine Told.putc 0 1 (show AV.int .i64 ((atN s st : Nat) : Int) = AV.int .i64 ((atN s st + 0 : Nat) : Int) from rfl) (by kernel_rfl) ?_; exact Told.k (by kernel_rfl)
  · exact Nat.zero_le _
  · intro i1 t1 hi1 hI1
    refine W.seq ?_
    refine W.seq ?_
    refine W.drawn2 (by kernel_rfl) ?_
    refine WE.adv (j' := 11) 11 (by kernel_rfl) (by kernel_rfl) ?_
    refine splitB (decide (((atN s st + i1 : Nat) : Int) < ((lenN s : Nat) : Int))) (fun hb2 => ?_) (fun hb2 => ?_)
    · refine WE.sub 19 hb2 (by kernel_rfl) ?_
      refine WE.sub 20 hb2 (by kernel_rfl) ?_
      refine WE.adv (j' := 19) 8 (by kernel_rfl) (by kernel_rfl) ?_
      refine WE.opq (str_at (K := K) (s := s) (i := atN s st + i1) (in_str hb2)) (by kernel_rfl) (by kernel_rfl) ?_
      refine WE.callp (by kernel_rfl) (by kernel_rfl) (isDigit_c (n := m) (by omega) (s.getD (atN s st + i1) 0) _) ?_
      refine WE.adv (j' := 22) 1 (by kernel_rfl) (by kernel_rfl) ?_
      refine splitB (isDg (s.getD (atN s st + i1) 0)) (fun hb3 => ?_) (fun hb3 => ?_)
      · refine WE.sub 30 hb3 (by kernel_rfl) ?_
        refine WE.sub 31 hb3 (by kernel_rfl) ?_
        refine WE.fin (by kernel_rfl) ?_
        refine W.cond true (by kernel_rfl) (fun _ => ?_) (fun h => by cases h)
        refine W.skip ?_
        refine W.block ?_
        refine W.region ?_
        refine WO.fin (by kernel_rfl) ?_
        have hlt : i1 < (spanR st.1).length := (num_lt hs hI1 (by rw [hb2, hb3]; rfl))
        refine ⟨hlt, ?_, ?_⟩
        · exact hlt
        · refine Told.putc 0 1 (show AV.int .i64 (wrapF .i64 (((atN s st + i1 : Nat) : Int) + 1)) = AV.int .i64 ((atN s st + (i1 + 1) : Nat) : Int) from congrArg (AV.int .i64) (at_next (at_small hs hl hlt))) (by kernel_rfl) ?_
          exact Told.k (by kernel_rfl)
      · refine WE.sub 30 hb3 (by kernel_rfl) ?_
        refine WE.sub 31 hb3 (by kernel_rfl) ?_
        refine WE.adv (j' := 29) 7 (by kernel_rfl) (by kernel_rfl) ?_
        refine splitB (((atN s st + i1 : Nat) : Int) == ((atN s st : Nat) : Int)) (fun hb4 => ?_) (fun hb4 => ?_)
        · refine WE.sub 37 hb4 (by kernel_rfl) ?_
          refine WE.sub 38 hb4 (by kernel_rfl) ?_
          refine WE.adv (j' := 37) 8 (by kernel_rfl) (by kernel_rfl) ?_
          refine WE.opq (str_at (K := K) (s := s) (i := atN s st + i1) (in_str hb2)) (by kernel_rfl) (by kernel_rfl) ?_
          refine WE.fin (by kernel_rfl) ?_
          refine W.cond ((((s.getD (atN s st + i1) 0).toNat : Nat) : Int) == 45) (by kernel_rfl) (fun hb5 => ?_) (fun hb5 => ?_)
          · refine W.sub 48 hb5 (by kernel_rfl) ?_
            refine W.sub 49 hb5 (by kernel_rfl) ?_
            refine W.sub 50 hb5 (by kernel_rfl) ?_
            refine W.sub 51 hb5 (by kernel_rfl) ?_
            refine W.skip ?_
            refine W.block ?_
            refine W.region ?_
            refine WO.fin (by kernel_rfl) ?_
            have hlt : i1 < (spanR st.1).length := (num_lt hs hI1 (by rw [hb2, hb3, hb4, hb5]; rfl))
            refine ⟨hlt, ?_, ?_⟩
            · exact hlt
            · refine Told.putc 0 1 (show AV.int .i64 (wrapF .i64 (((atN s st + i1 : Nat) : Int) + 1)) = AV.int .i64 ((atN s st + (i1 + 1) : Nat) : Int) from congrArg (AV.int .i64) (at_next (at_small hs hl hlt))) (by kernel_rfl) ?_
              exact Told.k (by kernel_rfl)
          · refine W.sub 48 hb5 (by kernel_rfl) ?_
            refine W.sub 49 hb5 (by kernel_rfl) ?_
            refine W.sub 50 hb5 (by kernel_rfl) ?_
            refine W.sub 51 hb5 (by kernel_rfl) ?_
            refine W.exit ?_
            have hq := num_end hs hI1 (by rw [hb2, hb3, hb4, hb5]; rfl)
            subst hq
            refine blockQ ?_
            refine W.seq ?_
            refine W.drawn2 (by kernel_rfl) ?_
            refine WE.adv (j' := 9) 9 (by kernel_rfl) (by kernel_rfl) ?_
            refine WE.opq (num_slice (K := K) (s := s) (st := st) hs) (by kernel_rfl) (by kernel_rfl) ?_
            refine WE.callp (by kernel_rfl) (by kernel_rfl) (decimal_c (n := m) (by omega) (spanR st.1) (span_small hs hl) hK _) ?_
            refine WE.fin (by kernel_rfl) ?_
            refine W.seq ?_
            refine W.region ?_
            refine WO.adv 6 (by kernel_rfl) ?_
            refine splitB st.2 (fun hb6 => ?_) (fun hb6 => ?_)
            · refine WO.sub 78 hb6 (by kernel_rfl) ?_
              refine WO.sub 79 hb6 (by kernel_rfl) ?_
              refine WO.fin (by kernel_rfl) ?_
              refine W.seq ?_
              refine W.region ?_
              refine WO.fin (by kernel_rfl) ?_
              refine W.ret ?_
              exact RetO.k (v' := .int .i64 (decV (spanR st.1))) (cs' := [.str s, .int .i64 ((atN s st + (spanR st.1).length : Nat) : Int), .bool true]) (ver := (Nat.succ (t1.vr 0))) (by rfl) (by rw [num_at hs]; show [_, _, AV.bool (st.2 || !(decO (spanR st.1)).isSome)] = _; rw [hb6]; rfl) (by kernel_rfl) (by kernel_rfl) (by kernel_rfl)
            · refine WO.sub 78 hb6 (by kernel_rfl) ?_
              refine WO.sub 79 hb6 (by kernel_rfl) ?_
              refine WO.fin (by kernel_rfl) ?_
              refine W.seq ?_
              refine W.region ?_
              refine WO.fin (by kernel_rfl) ?_
              refine W.ret ?_
              exact RetO.k (v' := .int .i64 (decV (spanR st.1))) (cs' := [.str s, .int .i64 ((atN s st + (spanR st.1).length : Nat) : Int), .bool (!((decO (spanR st.1)).isSome))]) (ver := (Nat.succ (t1.vr 0))) (by rfl) (by rw [num_at hs]; show [_, _, AV.bool (st.2 || !(decO (spanR st.1)).isSome)] = _; rw [hb6]; rfl) (by kernel_rfl) (by kernel_rfl) (by kernel_rfl)
        · refine WE.sub 37 hb4 (by kernel_rfl) ?_
          refine WE.sub 38 hb4 (by kernel_rfl) ?_
          refine WE.fin (by kernel_rfl) ?_
          refine W.cond false (by kernel_rfl) (fun h => by cases h) (fun _ => ?_)
          refine W.exit ?_
          have hq := num_end hs hI1 (by rw [hb2, hb3, hb4]; rfl)
          subst hq
          refine blockQ ?_
          refine W.seq ?_
          refine W.drawn2 (by kernel_rfl) ?_
          refine WE.adv (j' := 9) 9 (by kernel_rfl) (by kernel_rfl) ?_
          refine WE.opq (num_slice (K := K) (s := s) (st := st) hs) (by kernel_rfl) (by kernel_rfl) ?_
          refine WE.callp (by kernel_rfl) (by kernel_rfl) (decimal_c (n := m) (by omega) (spanR st.1) (span_small hs hl) hK _) ?_
          refine WE.fin (by kernel_rfl) ?_
          refine W.seq ?_
          refine W.region ?_
          refine WO.adv 6 (by kernel_rfl) ?_
          refine splitB st.2 (fun hb7 => ?_) (fun hb7 => ?_)
          · refine WO.sub 78 hb7 (by kernel_rfl) ?_
            refine WO.sub 79 hb7 (by kernel_rfl) ?_
            refine WO.fin (by kernel_rfl) ?_
            refine W.seq ?_
            refine W.region ?_
            refine WO.fin (by kernel_rfl) ?_
            refine W.ret ?_
            exact RetO.k (v' := .int .i64 (decV (spanR st.1))) (cs' := [.str s, .int .i64 ((atN s st + (spanR st.1).length : Nat) : Int), .bool true]) (ver := (Nat.succ (t1.vr 0))) (by rfl) (by rw [num_at hs]; show [_, _, AV.bool (st.2 || !(decO (spanR st.1)).isSome)] = _; rw [hb7]; rfl) (by kernel_rfl) (by kernel_rfl) (by kernel_rfl)
          · refine WO.sub 78 hb7 (by kernel_rfl) ?_
            refine WO.sub 79 hb7 (by kernel_rfl) ?_
            refine WO.fin (by kernel_rfl) ?_
            refine W.seq ?_
            refine W.region ?_
            refine WO.fin (by kernel_rfl) ?_
            refine W.ret ?_
            exact RetO.k (v' := .int .i64 (decV (spanR st.1))) (cs' := [.str s, .int .i64 ((atN s st + (spanR st.1).length : Nat) : Int), .bool (!((decO (spanR st.1)).isSome))]) (ver := (Nat.succ (t1.vr 0))) (by rfl) (by rw [num_at hs]; show [_, _, AV.bool (st.2 || !(decO (spanR st.1)).isSome)] = _; rw [hb7]; rfl) (by kernel_rfl) (by kernel_rfl) (by kernel_rfl)
    · refine WE.sub 19 hb2 (by kernel_rfl) ?_
      refine WE.sub 20 hb2 (by kernel_rfl) ?_
      refine WE.fin (by kernel_rfl) ?_
      refine W.cond false (by kernel_rfl) (fun h => by cases h) (fun _ => ?_)
      refine W.exit ?_
      have hq := num_end hs hI1 (by rw [hb2]; rfl)
      subst hq
      refine blockQ ?_
      refine W.seq ?_
      refine W.drawn2 (by kernel_rfl) ?_
      refine WE.adv (j' := 9) 9 (by kernel_rfl) (by kernel_rfl) ?_
      refine WE.opq (num_slice (K := K) (s := s) (st := st) hs) (by kernel_rfl) (by kernel_rfl) ?_
      refine WE.callp (by kernel_rfl) (by kernel_rfl) (decimal_c (n := m) (by omega) (spanR st.1) (span_small hs hl) hK _) ?_
      refine WE.fin (by kernel_rfl) ?_
      refine W.seq ?_
      refine W.region ?_
      refine WO.adv 6 (by kernel_rfl) ?_
      refine splitB st.2 (fun hb8 => ?_) (fun hb8 => ?_)
      · refine WO.sub 78 hb8 (by kernel_rfl) ?_
        refine WO.sub 79 hb8 (by kernel_rfl) ?_
        refine WO.fin (by kernel_rfl) ?_
        refine W.seq ?_
        refine W.region ?_
        refine WO.fin (by kernel_rfl) ?_
        refine W.ret ?_
        exact RetO.k (v' := .int .i64 (decV (spanR st.1))) (cs' := [.str s, .int .i64 ((atN s st + (spanR st.1).length : Nat) : Int), .bool true]) (ver := (Nat.succ (t1.vr 0))) (by rfl) (by rw [num_at hs]; show [_, _, AV.bool (st.2 || !(decO (spanR st.1)).isSome)] = _; rw [hb8]; rfl) (by kernel_rfl) (by kernel_rfl) (by kernel_rfl)
      · refine WO.sub 78 hb8 (by kernel_rfl) ?_
        refine WO.sub 79 hb8 (by kernel_rfl) ?_
        refine WO.fin (by kernel_rfl) ?_
        refine W.seq ?_
        refine W.region ?_
        refine WO.fin (by kernel_rfl) ?_
        refine W.ret ?_
        exact RetO.k (v' := .int .i64 (decV (spanR st.1))) (cs' := [.str s, .int .i64 ((atN s st + (spanR st.1).length : Nat) : Int), .bool (!((decO (spanR st.1)).isSome))]) (ver := (Nat.succ (t1.vr 0))) (by rfl) (by rw [num_at hs]; show [_, _, AV.bool (st.2 || !(decO (spanR st.1)).isSome)] = _; rw [hb8]; rfl) (by kernel_rfl) (by kernel_rfl) (by kernel_rfl)

set_option maxRecDepth 20000 in
theorem rdCount_c {n : Nat}  (hn : 4 ≤ n) (s : List UInt8) (st : RS) (hl : s.length ≤ 4000) (hK : big ≤ K) (hs : st.1 <:+ s) {i g ver : Nat} {h : Heap} (hg : h.get i = some (bk g 90 true ver [.str s, .int .i64 ((atN s st : Nat) : Int), .bool st.2])) :
    (fns (Cg K) n).call 73 ((.ptrO i 0) :: []) h none = some (.val (.int .i64 (rCount s.length st).1) (h.set i (bk g 90 true (Nat.succ ver) [.str s, .int .i64 ((atN s (rCount s.length st).2 : Nat) : Int), .bool (rCount s.length st).2.2])) none) := by
  obtain ⟨m, rfl⟩ : ∃ m, n = m + 1 := ⟨n - 1, by omega⟩
  refine ownq (y := (.ptrO 0 0)) (C := Cg K) (F := fns (Cg K) m) (fn := Tryz.f73) (c := bodyOf Tryz.f73) (by kernel_rfl) (by kernel_rfl) (by kernel_rfl) hg (by kernel_rfl) (by kernel_rfl) (by kernel_rfl) (by kernel_rfl) (by kernel_rfl) (by kernel_rfl) (by kernel_rfl) ?_
  refine W.seq ?_
  refine W.region ?_
  refine WO.fin (by kernel_rfl) ?_
  refine W.seq ?_
  refine W.region ?_
  refine WO.adv 1 (by kernel_rfl) ?_
  refine WO.callh (by kernel_rfl) rfl (rdNum_c (n := m) (by omega) s st hl hK hs (i := 0) (g := 0) (ver := 0)  (by kernel_rfl)) ?_
  refine WO.fin (by kernel_rfl) ?_
  refine W.seq ?_
  refine W.seq ?_
  refine W.region ?_
  refine WO.adv 6 (by kernel_rfl) ?_
  refine WO.callp (by kernel_rfl) (within_c (n := m) (by omega) ((rNum st).1) 0 ((lenN s : Nat) : Int) _) ?_
  refine WO.fin (by kernel_rfl) ?_
  refine W.cond (!(withinB ((rNum st).1) 0 ((lenN s : Nat) : Int))) (by kernel_rfl) (fun hb1 => ?_) (fun hb1 => ?_)
  · refine W.sub 13 hb1 (by kernel_rfl) ?_
    refine W.seq ?_
    refine W.region ?_
    refine WO.fin (by kernel_rfl) ?_
    refine W.seq ?_
    refine W.region ?_
    refine WO.fin (by kernel_rfl) ?_
    refine W.ret ?_
    exact RetO.k (v' := .int .i64 0) (cs' := [.str s, .int .i64 ((atN s ((rNum st).2) : Nat) : Int), .bool true]) (ver := (Nat.succ (Nat.succ 0))) (by rw [count_bad (nb_t hb1)]) (by rw [count_bad (nb_t hb1)]; rfl) (by kernel_rfl) (by kernel_rfl) (by kernel_rfl)
  · refine W.sub 13 hb1 (by kernel_rfl) ?_
    refine W.skip ?_
    refine W.seq ?_
    refine W.region ?_
    refine WO.fin (by kernel_rfl) ?_
    refine W.ret ?_
    exact RetO.k (v' := .int .i64 ((rNum st).1)) (cs' := [.str s, .int .i64 ((atN s ((rNum st).2) : Nat) : Int), .bool (((rNum st).2).2)]) (ver := (Nat.succ 0)) (by rw [count_ok (nb_f hb1)]) (by rw [count_ok (nb_f hb1)]) (by kernel_rfl) (by kernel_rfl) (by kernel_rfl)

theorem txt_fit {s : List UInt8} {st : RS} (hs : st.1 <:+ s) (hl : s.length ≤ 4000) (h : decide ((rCount s.length st).1 > (wrapF .i64 (((lenN s : Nat) : Int) - ((atN s (tX s.length st) : Nat) : Int)))) = false) : (rCount s.length st).1 ≤ (((tX s.length st).1.length : Nat) : Int) := by
  rw [rest_len (tX_suf hs s.length) hl] at h
  have := of_decide_eq_false h
  omega
set_option maxRecDepth 20000 in
theorem rdText2_c {n : Nat}  (hn : 5 ≤ n) (s : List UInt8) (st : RS) (hl : s.length ≤ 4000) (hK : big ≤ K) (hs : st.1 <:+ s) {i g ver : Nat} {h : Heap} (hg : h.get i = some (bk g 90 true ver [.str s, .int .i64 ((atN s st : Nat) : Int), .bool st.2])) :
    (fns (Cg K) n).call 50 ((.ptrO i 0) :: []) h none = some (.val (.str (rText s.length st).1) (h.set i (bk g 90 true (Nat.succ ver) [.str s, .int .i64 ((atN s (rText s.length st).2 : Nat) : Int), .bool (rText s.length st).2.2])) none) := by
  obtain ⟨m, rfl⟩ : ∃ m, n = m + 1 := ⟨n - 1, by omega⟩
  refine ownq (y := (.ptrO 0 0)) (C := Cg K) (F := fns (Cg K) m) (fn := Tryz.f50) (c := bodyOf Tryz.f50) (by kernel_rfl) (by kernel_rfl) (by kernel_rfl) hg (by kernel_rfl) (by kernel_rfl) (by kernel_rfl) (by kernel_rfl) (by kernel_rfl) (by kernel_rfl) (by kernel_rfl) ?_
  refine W.seq ?_
  refine W.region ?_
  refine WO.fin (by kernel_rfl) ?_
  refine W.seq ?_
  refine W.region ?_
  refine WO.adv 1 (by kernel_rfl) ?_
  refine WO.callh (by kernel_rfl) rfl (rdCount_c (n := m) (by omega) s st hl hK hs (i := 0) (g := 0) (ver := 0)  (by kernel_rfl)) ?_
  refine WO.fin (by kernel_rfl) ?_
  refine W.seq ?_
  refine W.region ?_
  refine WO.adv 1 (by kernel_rfl) ?_
  refine WO.callh (by kernel_rfl) rfl (rdTake_c (n := m) (by omega) s ((rCount s.length st).2) 58 hl (rCount_suf hs _) (i := 0) (g := 0) (ver := (Nat.succ 0))  (by kernel_rfl)) ?_
  refine WO.nil ?_
  refine W.seq ?_
  refine W.seq ?_
  refine W.drawn2 (by kernel_rfl) ?_
  refine WE.adv (j' := 5) 5 (by kernel_rfl) (by kernel_rfl) ?_
  refine splitB ((tX s.length st).2) (fun hb1 => ?_) (fun hb1 => ?_)
  · refine WE.sub 11 hb1 (by kernel_rfl) ?_
    refine WE.sub 12 hb1 (by kernel_rfl) ?_
    refine WE.fin (by kernel_rfl) ?_
    refine W.cond true (by kernel_rfl) (fun _ => ?_) (fun h => by cases h)
    refine W.seq ?_
    refine W.region ?_
    refine WO.fin (by kernel_rfl) ?_
    refine W.seq ?_
    refine W.region ?_
    refine WO.fin (by kernel_rfl) ?_
    refine W.ret ?_
    exact RetO.k (v' := .str []) (cs' := [.str s, .int .i64 ((atN s (tX s.length st) : Nat) : Int), .bool true]) (ver := (Nat.succ (Nat.succ (Nat.succ 0)))) (by rw [text_bad (L := s.length) (st := st) (by rw [hb1]; rfl)]) (by rw [text_bad (L := s.length) (st := st) (by rw [hb1]; rfl)]; rfl) (by kernel_rfl) (by kernel_rfl) (by kernel_rfl)
  · refine WE.sub 11 hb1 (by kernel_rfl) ?_
    refine WE.sub 12 hb1 (by kernel_rfl) ?_
    refine WE.fin (by kernel_rfl) ?_
    refine W.cond (decide ((rCount s.length st).1 > (wrapF .i64 (((lenN s : Nat) : Int) - ((atN s (tX s.length st) : Nat) : Int))))) (by kernel_rfl) (fun hb2 => ?_) (fun hb2 => ?_)
    · refine W.sub 24 hb2 (by kernel_rfl) ?_
      refine W.sub 25 hb2 (by kernel_rfl) ?_
      refine W.seq ?_
      refine W.region ?_
      refine WO.fin (by kernel_rfl) ?_
      refine W.seq ?_
      refine W.region ?_
      refine WO.fin (by kernel_rfl) ?_
      refine W.ret ?_
      exact RetO.k (v' := .str []) (cs' := [.str s, .int .i64 ((atN s (tX s.length st) : Nat) : Int), .bool true]) (ver := (Nat.succ (Nat.succ (Nat.succ 0)))) (by rw [text_bad (L := s.length) (st := st) (by rw [hb1, ← rest_len (tX_suf hs s.length) hl, hb2]; rfl)]) (by rw [text_bad (L := s.length) (st := st) (by rw [hb1, ← rest_len (tX_suf hs s.length) hl, hb2]; rfl)]; rfl) (by kernel_rfl) (by kernel_rfl) (by kernel_rfl)
    · refine W.sub 24 hb2 (by kernel_rfl) ?_
      refine W.sub 25 hb2 (by kernel_rfl) ?_
      refine W.skip ?_
      refine W.seq ?_
      refine W.region ?_
      refine WO.fin (by kernel_rfl) ?_
      refine W.seq ?_
      refine W.drawn2 (by kernel_rfl) ?_
      refine WE.adv (j' := 14) 14 (by kernel_rfl) (by kernel_rfl) ?_
      refine WE.opq (text_slice (K := K) (s := s) (x := (tX s.length st)) (n := (rCount s.length st).1) (tX_suf hs _) hl (rCount_le _ _).1 (txt_fit hs hl hb2)) (by kernel_rfl) (by kernel_rfl) ?_
      refine WE.fin (by kernel_rfl) ?_
      refine W.ret ?_
      exact RetO.k (v' := .str ((tX s.length st).1.take (rCount s.length st).1.toNat)) (cs' := [.str s, .int .i64 (wrapF .i64 (((atN s (tX s.length st) : Nat) : Int) + (rCount s.length st).1)), .bool ((tX s.length st).2)]) (ver := (Nat.succ (Nat.succ (Nat.succ 0)))) (by rw [text_ok (L := s.length) (st := st) (by rw [hb1, ← rest_len (tX_suf hs s.length) hl, hb2]; rfl)]) (by rw [text_ok (L := s.length) (st := st) (by rw [hb1, ← rest_len (tX_suf hs s.length) hl, hb2]; rfl)]; rw [text_at (x := (tX s.length st)) (tX_suf hs _) hl (rCount_le _ _).1 (txt_fit hs hl hb2)]) (by kernel_rfl) (by kernel_rfl) (by kernel_rfl)

end
end Go.Abs
namespace Go.Abs
noncomputable section
open Go Go.Proofs
variable {K : Nat}
/-! ## Rounds of the reference's reader -/
section
variable {α : Type} {B : RS → α × RS}
theorem it_suf {s : List UInt8} (hB : ∀ a : RS, a.1 <:+ s → (B a).2.1 <:+ s) {r : List α × RS} (hr : r.2.1 <:+ s) : ∀ i, (itL B i r).2.1 <:+ s
  | 0 => hr
  | i + 1 => by rw [itL_succ]; exact hB _ (it_suf hB hr i)
theorem rit_loop (r : List α × RS) : ∀ (i k : Nat), (∀ j : Nat, j < i → (itL B j r).2.2 = false) → i ≤ k → rLoop B k r = rLoop B (k - i) (itL B i r)
  | 0, k, _, _ => rfl
  | i + 1, k, h, hk => by
    rw [rit_loop r i k (fun j hj => h j (by omega)) (by omega)]
    obtain ⟨g, hg⟩ : ∃ g, k - i = g + 1 := ⟨k - i - 1, by omega⟩
    rw [hg, rLoop_step g _ (h i (by omega)), itL_succ, show k - (i + 1) = g by omega]
theorem rit_exit {n : Int} {r : List α × RS} {i : Nat} (hi : i ≤ n.toNat) (h : ∀ j : Nat, j < i → (itL B j r).2.2 = false) (he : n ≤ ((i : Nat) : Int) ∨ (itL B i r).2.2 = true) : itL B i r = rLoop B n.toNat r := by
  rw [rit_loop r i _ h hi]
  rcases he with he | he
  · rw [show n.toNat - i = 0 by omega]; rfl
  · rw [rLoop_wrong _ _ he]
theorem rit_start {r : List α × RS} {i : Nat} (h : ∀ j : Nat, j < i → (itL B j r).2.2 = false) (hw : (itL B i r).2.2 = false) : r.2.2 = false := by
  cases i with
  | zero => exact hw
  | succ i => exact h 0 (by omega)
end
theorem cnt_next {n : Int} {i : Nat} (h0 : 0 ≤ n) (h1 : n ≤ 4000) (hi : i ≤ 4000) : wrapF .i64 ((n - ((i : Nat) : Int)) - 1) = n - ((i + 1 : Nat) : Int) := by
  rw [wrap_in (inR64_of (by omega) (by omega))]; omega
theorem deep_next {deep : Int} (h0 : 0 ≤ deep) (h : decide (deep > 4000) = false) : wrapF .i64 (deep + 1) = deep + 1 := by
  have := of_decide_eq_false h
  rw [wrap_in (inR64_of (by omega) (by omega))]
section
variable {s : List UInt8} {L d : Nat} {deep : Int} {V : RS → Val × RS} {st : RS} {i : Nat}
theorem rF_eq (hi : i ≤ (rE L st).1.toNat) (h : ∀ j : Nat, j < i → (itL (rName L) j ([], (rE L st).2)).2.2 = false) (he : (rE L st).1 ≤ ((i : Nat) : Int) ∨ (itL (rName L) i ([], (rE L st).2)).2.2 = true) : itL (rName L) i ([], (rE L st).2) = rF L st := by
  unfold rF; exact rit_exit hi h he
theorem rH_eq (hi : i ≤ (rG L st).1.toNat) (h : ∀ j : Nat, j < i → (itL V j ([], (rG L st).2)).2.2 = false) (he : (rG L st).1 ≤ ((i : Nat) : Int) ∨ (itL V i ([], (rG L st).2)).2.2 = true) : itL V i ([], (rG L st).2) = rH L V st := by
  unfold rH; exact rit_exit hi h he
theorem rA_suf (hs : st.1 <:+ s) : (rA st).2.1 <:+ s := by unfold rA; exact rNum_suf (rTake_suf hs 118)
theorem rB_suf (hs : st.1 <:+ s) : (rB st).2.1 <:+ s := by unfold rB; exact rNum_suf (rTake_suf (rA_suf hs) 44)
theorem rC_suf (hs : st.1 <:+ s) : (rC st).2.1 <:+ s := by unfold rC; exact rNum_suf (rTake_suf (rB_suf hs) 44)
theorem rD_suf (hs : st.1 <:+ s) : (rD L st).2.1 <:+ s := by
  unfold rD
  have h := rTake_suf (rC_suf hs) 44
  generalize rTake 44 (rC st).2 = z at h ⊢
  exact rText_suf h L
theorem rE_suf (hs : st.1 <:+ s) : (rE L st).2.1 <:+ s := by
  unfold rE
  have h := rTake_suf (rD_suf (L := L) hs) 44
  generalize rTake 44 (rD L st).2 = z at h ⊢
  exact rCount_suf h L
theorem rLoop_suf {α : Type} {B : RS → α × RS} (hB : ∀ a : RS, a.1 <:+ s → (B a).2.1 <:+ s) : ∀ (k : Nat) (r : List α × RS), r.2.1 <:+ s → (rLoop B k r).2.1 <:+ s
  | 0, r, h => h
  | k + 1, r, h => by
    unfold rLoop
    cases r.2.2 with
    | true => exact h
    | false => exact rLoop_suf hB k _ (hB _ h)
theorem rF_suf (hs : st.1 <:+ s) : (rF L st).2.1 <:+ s := by
  unfold rF
  have hg := rE_suf (L := L) hs
  exact rLoop_suf (s := s) (B := rName L) (fun a h => rName_suf h L) (rE L st).1.toNat ([], (rE L st).2) hg
theorem rG_suf (hs : st.1 <:+ s) : (rG L st).2.1 <:+ s := by
  unfold rG
  have h := rTake_suf (rF_suf (L := L) hs) 44
  generalize rTake 44 (rF L st).2 = z at h ⊢
  exact rCount_suf h L
theorem rVal_suf : ∀ (d : Nat) (deep : Int) (st : RS), st.1 <:+ s → (rVal L d deep st).2.1 <:+ s
  | 0, deep, st, hs => by rw [rVal]; exact hs
  | d + 1, deep, st, hs => by
    rw [rVal]
    cases st.2 || decide (deep > 4000) with
    | true => exact hs
    | false =>
      simp only [cond_false]
      unfold rI rH
      have hg := rG_suf (L := L) hs
      have h := rLoop_suf (s := s) (B := rVal L d (deep + 1)) (fun a h => rVal_suf d (deep + 1) a h) (rG L st).1.toNat ([], (rG L st).2) hg
      exact rTake_suf h 59
theorem rH_suf (hs : st.1 <:+ s) : (rH L (rVal L d deep) st).2.1 <:+ s := by
  unfold rH
  have hg := rG_suf (L := L) hs
  exact rLoop_suf (s := s) (B := rVal L d deep) (fun a h => rVal_suf d deep a h) (rG L st).1.toNat ([], (rG L st).2) hg
theorem rVal_bad (h : (st.2 || decide (deep > 4000)) = true) : rVal L (d + 1) deep st = (.mk 0 0 0 [] true [] true [], (st.1, true)) := by rw [rVal, h]; rfl
theorem rVal_go (h : (st.2 || decide (deep > 4000)) = false) : rVal L (d + 1) deep st = (.mk (rA st).1 (rB st).1 (rC st).1 (rD L st).1 true (rF L st).1 true (rH L (rVal L d (deep + 1)) st).1, rI L (rVal L d (deep + 1)) st) := by rw [rVal, h]; rfl
theorem cnt_lt {n : Int} (h : decide (n - ((i : Nat) : Int) > 0) = true) : i < n.toNat := by have := of_decide_eq_true h; omega
theorem cnt_end {n : Int} (h : decide (n - ((i : Nat) : Int) > 0) = false) : n ≤ ((i : Nat) : Int) := by have := of_decide_eq_false h; omega
/-- a value within a value has less of the line -/
theorem ritem_less (hs : st.1.length < d + 1) (hB : ∀ a : RS, (V a).2.1.length ≤ a.1.length) (h : ∀ j : Nat, j < i → (itL V j ([], (rG L st).2)).2.2 = false) (hw : (itL V i ([], (rG L st).2)).2.2 = false) : (itL V i ([], (rG L st).2)).2.1.length < d := by
  have h0 := rit_start (r := ([], (rG L st).2)) h hw
  have h0 : (rG L st).2.2 = false := h0
  have h1 : (rTake 118 st).2 = false := by
    cases hh : (rTake 118 st).2 with
    | false => rfl
    | true =>
      have a1 : (rA st).2.2 = true := by unfold rA; exact rNum_stick hh
      have a2 : (rB st).2.2 = true := by unfold rB; exact rNum_stick (rTake_stick a1)
      have a3 : (rC st).2.2 = true := by unfold rC; exact rNum_stick (rTake_stick a2)
      have a4 : (rD L st).2.2 = true := by unfold rD; exact rText_stick (rTake_stick a3)
      have a5 : (rE L st).2.2 = true := by unfold rE; exact rCount_stick (rTake_stick a4)
      have a6 : (rF L st).2.2 = true := by unfold rF; exact rLoop_stick a5
      have a7 : (rG L st).2.2 = true := by unfold rG; exact rCount_stick (rTake_stick a6)
      rw [a7] at h0; cases h0
  have h2 : (rTake 118 st).1.length < st.1.length := by
    unfold rTake at h1 ⊢
    cases hc : st.2 || !(decide (st.1.head? = some 118)) with
    | true => rw [hc] at h1; cases h1
    | false =>
      rw [Bool.or_eq_false_iff] at hc
      have h3 := of_decide_eq_true (nb_f hc.2)
      simp only [cond_false, List.length_drop]
      cases hr : st.1 with
      | nil => rw [hr] at h3; cases h3
      | cons a l => simp only [List.length_cons]; omega
  have b1 : (rA st).2.1 <:+ (rTake 118 st).1 := by unfold rA; exact rNum_suf (List.suffix_refl _)
  have b2 : (rB st).2.1 <:+ (rTake 118 st).1 := by unfold rB; exact rNum_suf (rTake_suf b1 44)
  have b3 : (rC st).2.1 <:+ (rTake 118 st).1 := by unfold rC; exact rNum_suf (rTake_suf b2 44)
  have b4 : (rD L st).2.1 <:+ (rTake 118 st).1 := by
    unfold rD
    have h := rTake_suf b3 44
    generalize rTake 44 (rC st).2 = z at h ⊢
    exact rText_suf h L
  have b5 : (rE L st).2.1 <:+ (rTake 118 st).1 := by
    unfold rE
    have h := rTake_suf b4 44
    generalize rTake 44 (rD L st).2 = z at h ⊢
    exact rCount_suf h L
  have b6 : (rF L st).2.1 <:+ (rTake 118 st).1 := by
    unfold rF
    exact rLoop_suf (B := rName L) (fun a h => rName_suf h L) (rE L st).1.toNat ([], (rE L st).2) b5
  have b7 : (rG L st).2.1 <:+ (rTake 118 st).1 := by
    unfold rG
    have h := rTake_suf b6 44
    generalize rTake 44 (rF L st).2 = z at h ⊢
    exact rCount_suf h L
  have h5 := b7.length_le
  have h6 := it_le (B := V) hB ([], (rG L st).2) i
  have h6 : (itL V i ([], (rG L st).2)).2.1.length ≤ (rG L st).2.1.length := h6
  omega
theorem rVal_len (d : Nat) (deep : Int) (a : RS) : (rVal L d deep a).2.1.length ≤ a.1.length := (rVal_suf (s := a.1) (L := L) d deep a (List.suffix_refl _)).length_le
end
end
end Go.Abs
