/- A part of the proofs of the laws of logs: see the last text of this claim. -/
import Derived.Lib.AtoiAllCases
import Derived.Lib.ItoaMem
import Derived.Shelf.GgClosure.StringsIndexFunc
import Derived.Lib.TrimUEq
namespace Go.Abs
noncomputable section
open Go
/-! ## Numerals: what the two readers take for a number -/
def isDg (c : UInt8) : Bool := decide (48 ≤ c.toNat) && decide (c.toNat ≤ 57)
/-- what digits spell -/
def valD (a : Nat) (l : List UInt8) : Nat := l.foldl (fun a c => a * 10 + (c.toNat - 48)) a
theorem valD_nil (a : Nat) : valD a [] = a := rfl
theorem valD_cons (a : Nat) (c : UInt8) (l : List UInt8) : valD a (c :: l) = valD (a * 10 + (c.toNat - 48)) l := by unfold valD; rw [List.foldl_cons]
theorem valD_app : ∀ (l k : List UInt8) (a : Nat), valD a (l ++ k) = valD (valD a l) k
  | [], k, a => rfl
  | c :: l, k, a => by rw [List.cons_append, valD_cons, valD_cons, valD_app l k]
theorem valD_le : ∀ (l : List UInt8) (a : Nat), a ≤ valD a l
  | [], a => Nat.le_refl _
  | c :: l, a => by rw [valD_cons]; have := valD_le l (a * 10 + (c.toNat - 48)); omega
theorem dig_toNat {d : Nat} (h : d < 10) : (UInt8.ofNat (48 + d)).toNat = 48 + d := by
  rw [UInt8.toNat_ofNat']; omega
theorem dec_spec : ∀ (n u : Nat), u < n → (∀ c ∈ Lib.decDigits u, isDg c = true) ∧ valD 0 (Lib.decDigits u) = u ∧ Lib.decDigits u ≠ [] ∧ ((Lib.decDigits u).head? = some 48 → u = 0)
  | 0, u, h => by omega
  | n + 1, u, h => by
    rw [Lib.decDigits]
    by_cases hu : u < 10
    · rw [dif_pos hu]
      refine ⟨fun c hc => ?_, ?_, by simp, fun he => ?_⟩
      · rw [List.mem_singleton] at hc
        subst hc
        unfold isDg; rw [dig_toNat hu]; simp; omega
      · rw [valD_cons, valD_nil, dig_toNat hu]; omega
      · simp only [List.head?_cons, Option.some.injEq] at he
        have := congrArg UInt8.toNat he
        rw [dig_toNat hu] at this
        have e : (48 : UInt8).toNat = 48 := rfl
        omega
    · rw [dif_neg hu]
      obtain ⟨h1, h2, h3, h4⟩ := dec_spec n (u / 10) (by omega)
      have hm : u % 10 < 10 := Nat.mod_lt _ (by omega)
      refine ⟨fun c hc => ?_, ?_, by simp, fun he => ?_⟩
      · rw [List.mem_append, List.mem_singleton] at hc
        rcases hc with hc | rfl
        · exact h1 c hc
        · unfold isDg; rw [dig_toNat hm]; simp; omega
      · rw [valD_app, h2, valD_cons, valD_nil, dig_toNat hm]; omega
      · have he2 : (Lib.decDigits (u / 10)).head? = some 48 := by
          cases hx : Lib.decDigits (u / 10) with
          | nil => exact absurd hx h3
          | cons a l => rw [hx] at he; exact he
        have := h4 he2; omega
theorem dec_dg (u : Nat) : ∀ c ∈ Lib.decDigits u, isDg c = true := (dec_spec (u + 1) u (Nat.lt_succ_self _)).1
theorem dec_val (u : Nat) : valD 0 (Lib.decDigits u) = u := (dec_spec (u + 1) u (Nat.lt_succ_self _)).2.1
theorem dec_ne (u : Nat) : Lib.decDigits u ≠ [] := (dec_spec (u + 1) u (Nat.lt_succ_self _)).2.2.1
theorem dec_zero {u : Nat} (h : (Lib.decDigits u).head? = some 48) : u = 0 := (dec_spec (u + 1) u (Nat.lt_succ_self _)).2.2.2 h
theorem dec_step {a : Nat} {c : UInt8} (ha : 1 ≤ a) (hc : isDg c = true) : Lib.decDigits (a * 10 + (c.toNat - 48)) = Lib.decDigits a ++ [c] := by
  unfold isDg at hc
  rw [Bool.and_eq_true] at hc
  have h1 := of_decide_eq_true hc.1; have h2 := of_decide_eq_true hc.2
  rw [Lib.decDigits, dif_neg (by omega), show (a * 10 + (c.toNat - 48)) / 10 = a by omega, show (a * 10 + (c.toNat - 48)) % 10 = c.toNat - 48 by omega, show 48 + (c.toNat - 48) = c.toNat by omega]
  simp
theorem dec_more : ∀ (l : List UInt8) (a : Nat), 1 ≤ a → (∀ c ∈ l, isDg c = true) → Lib.decDigits (valD a l) = Lib.decDigits a ++ l
  | [], a, _, _ => by rw [valD_nil, List.append_nil]
  | c :: l, a, ha, h => by
    rw [valD_cons, dec_more l _ (by omega) (fun x hx => h x (List.mem_cons_of_mem _ hx)), dec_step ha (h c (List.mem_cons_self ..)), List.append_assoc]; rfl
/-- digits without a superfluous zero are the numeral of what they spell -/
theorem dec_of {c : UInt8} {l : List UInt8} (h : ∀ x ∈ c :: l, isDg x = true) (h0 : c = 48 → l = []) : Lib.decDigits (valD 0 (c :: l)) = c :: l := by
  have hc := h c (List.mem_cons_self ..)
  have hc' := hc
  unfold isDg at hc'
  rw [Bool.and_eq_true] at hc'
  have h1 := of_decide_eq_true hc'.1; have h2 := of_decide_eq_true hc'.2
  have hd : Lib.decDigits (c.toNat - 48) = [c] := by
    rw [Lib.decDigits, dif_pos (by omega), show 48 + (c.toNat - 48) = c.toNat by omega]; simp
  rw [valD_cons, Nat.zero_mul, Nat.zero_add]
  by_cases hz : c = 48
  · rw [h0 hz, valD_nil, hd]
  · have : 1 ≤ c.toNat - 48 := by
      have : c.toNat ≠ 48 := fun e => hz (UInt8.toNat_inj.1 (by rw [e]; rfl))
      omega
    rw [dec_more l _ this (fun x hx => h x (List.mem_cons_of_mem _ hx)), hd]; rfl

/-- the number with these digits, as strconv.Atoi and strconv.Itoa tell it -/
def numOf (p : List UInt8) : Option Int := match Lib.atoiAll p with | .ok v => if Lib.itoa v = p then some v else none | _ => none
theorem parse_ok : ∀ (l : List UInt8) (a : Nat), (∀ c ∈ l, isDg c = true) → valD a l < 18446744073709551616 → Lib.parseUint10 a l = .ok (valD a l)
  | [], a, _, _ => rfl
  | c :: l, a, h, hv => by
    have hc := h c (List.mem_cons_self ..)
    unfold isDg at hc
    rw [Bool.and_eq_true] at hc
    have h1 := of_decide_eq_true hc.1; have h2 := of_decide_eq_true hc.2
    rw [valD_cons] at hv ⊢
    have hle := valD_le l (a * 10 + (c.toNat - 48))
    rw [Lib.parseUint10, if_pos ⟨h1, h2⟩, if_neg (by omega), if_neg (by omega)]
    exact parse_ok l _ (fun x hx => h x (List.mem_cons_of_mem _ hx)) hv
theorem atoi_pos {u : Nat} (h : u < 9223372036854775808) : Lib.atoiAll (Lib.decDigits u) = .ok (u : Int) := by
  cases hd : Lib.decDigits u with
  | nil => exact absurd hd (dec_ne u)
  | cons c r =>
    have hdg := dec_dg u
    rw [hd] at hdg
    have hc := hdg c (List.mem_cons_self ..)
    unfold isDg at hc
    rw [Bool.and_eq_true] at hc
    have h1 := of_decide_eq_true hc.1; have h2 := of_decide_eq_true hc.2
    have hv := dec_val u
    rw [hd] at hv
    have hp : Lib.parseMag (c :: r) = .ok u := by
      unfold Lib.parseMag
      rw [if_neg (by simp), parse_ok _ 0 hdg (by rw [hv]; omega), hv]
    unfold Lib.atoiAll
    simp only
    rw [if_neg (by omega), hp]
    simp only
    rw [if_neg (by omega), if_neg (by omega), if_neg (by omega)]
theorem atoi_neg {u : Nat} (h : u ≤ 9223372036854775808) : Lib.atoiAll (45 :: Lib.decDigits u) = .ok (-(u : Int)) := by
  have hp : Lib.parseMag (Lib.decDigits u) = .ok u := by
    unfold Lib.parseMag
    rw [if_neg (dec_ne u), parse_ok _ 0 (dec_dg u) (by rw [dec_val]; omega), dec_val]
  have e : (45 : UInt8).toNat = 45 := rfl
  unfold Lib.atoiAll
  simp only [e, or_true, if_true, hp, not_true, false_and, if_false, true_and]
  rw [if_neg (by omega)]
theorem numOf_itoa {v : Int} (h1 : -9223372036854775808 ≤ v) (h2 : v ≤ 9223372036854775807) : numOf (Lib.itoa v) = some v := by
  have key : Lib.atoiAll (Lib.itoa v) = .ok v := by
    rcases Int.lt_or_le v 0 with h | h
    · obtain ⟨u, rfl⟩ : ∃ u : Nat, v = -(u : Int) := ⟨v.natAbs, by omega⟩
      rw [Lib.itoa_neg u (by omega)]
      exact atoi_neg (by omega)
    · obtain ⟨u, rfl⟩ : ∃ u : Nat, v = u := ⟨v.toNat, by omega⟩
      rw [Lib.itoa_nonneg]
      exact atoi_pos (by omega)
  unfold numOf
  rw [key]
  simp
theorem numOf_some {p : List UInt8} {v : Int} (h : numOf p = some v) : p = Lib.itoa v ∧ -9223372036854775808 ≤ v ∧ v ≤ 9223372036854775807 := by
  unfold numOf at h
  split at h
  · rename_i x hx
    split at h
    · rename_i he
      cases h
      exact ⟨he.symm, Lib.atoiAll_bounds hx⟩
    · cases h
  · cases h
end
end Go.Abs
namespace Go.Abs
noncomputable section
open Go
/-! ## The reference's reckoning of a number -/
/-- digits, reckoned as long as an int holds them (below 0 there is one more) -/
def digs : Nat → List UInt8 → Option Nat
  | a, [] => some a
  | a, c :: l => if isDg c = true then (if 9223372036854775808 < a * 10 + (c.toNat - 48) then none else digs (a * 10 + (c.toNat - 48)) l) else none
theorem digs_nil (a : Nat) : digs a [] = some a := by unfold digs; rfl
theorem digs_cons (a : Nat) (c : UInt8) (l : List UInt8) : digs a (c :: l) = if isDg c = true then (if 9223372036854775808 < a * 10 + (c.toNat - 48) then none else digs (a * 10 + (c.toNat - 48)) l) else none := by
  conv => lhs; unfold digs
theorem digs_some : ∀ (l : List UInt8) (a m : Nat), a ≤ 9223372036854775808 → digs a l = some m → (∀ c ∈ l, isDg c = true) ∧ m = valD a l ∧ m ≤ 9223372036854775808
  | [], a, m, ha, h => by rw [digs_nil] at h; cases h; exact ⟨fun c hc => (by cases hc), rfl, ha⟩
  | c :: l, a, m, ha, h => by
    rw [digs_cons] at h
    split at h
    · rename_i hc
      split at h
      · cases h
      · obtain ⟨q1, q2, q3⟩ := digs_some l _ m (by omega) h
        refine ⟨fun x hx => ?_, by rw [valD_cons]; exact q2, q3⟩
        rcases List.mem_cons.1 hx with rfl | hx
        · exact hc
        · exact q1 x hx
    · cases h
theorem digs_of : ∀ (l : List UInt8) (a : Nat), (∀ c ∈ l, isDg c = true) → valD a l ≤ 9223372036854775808 → digs a l = some (valD a l)
  | [], a, _, _ => by rw [digs_nil, valD_nil]
  | c :: l, a, h, hv => by
    rw [valD_cons] at hv ⊢
    have := valD_le l (a * 10 + (c.toNat - 48))
    rw [digs_cons, if_pos (h c (List.mem_cons_self ..)), if_neg (by omega)]
    exact digs_of l _ (fun x hx => h x (List.mem_cons_of_mem _ hx)) hv
/-- does a numeral stand for a number below 0? -/
def negB (s : List UInt8) : Bool := decide (1 < s.length) && decide (s.head? = some 45)
def magB (s : List UInt8) : List UInt8 := bif negB s then s.drop 1 else s
def badB (s : List UInt8) : Bool := decide (magB s = []) || (decide ((magB s).head? = some 48) && (decide (1 < (magB s).length) || negB s))
def decO (s : List UInt8) : Option Int :=
  bif badB s then none else match digs 0 (magB s) with
  | none => none
  | some m => bif negB s then some (-(m : Int)) else if m = 9223372036854775808 then none else some (m : Int)
theorem decO_numOf (s : List UInt8) : decO s = numOf s := by
  -- what the reference takes is the numeral of a number
  have fwd : ∀ v, decO s = some v → numOf s = some v := by
    intro v h
    unfold decO at h
    cases hb : badB s with
    | true => rw [hb] at h; cases h
    | false =>
    rw [hb] at h
    simp only [cond_false] at h
    unfold badB at hb
    rw [Bool.or_eq_false_iff] at hb
    have hne : magB s ≠ [] := of_decide_eq_false hb.1
    split at h
    · cases h
    · rename_i m hm
      obtain ⟨q1, q2, q3⟩ := digs_some _ 0 m (by omega) hm
      cases hn : negB s with
      | true =>
        rw [hn] at h hb
        cases h
        unfold negB at hn
        rw [Bool.and_eq_true] at hn
        have n1 := of_decide_eq_true hn.1; have n2 := of_decide_eq_true hn.2
        have hmag : s = 45 :: magB s := by
          have hn' : negB s = true := by unfold negB; rw [Bool.and_eq_true]; exact hn
          unfold magB; rw [hn', cond_true]
          cases s with
          | nil => cases n2
          | cons a l => simp only [List.head?_cons, Option.some.injEq] at n2; subst n2; rfl
        cases hd : magB s with
        | nil => exact absurd hd hne
        | cons c l =>
          rw [hd] at q1 q2 hb
          have hz : c ≠ 48 := by
            intro e; subst e
            have := hb.2; simp at this
          have hdd := dec_of (c := c) (l := l) q1 (fun e => absurd e hz)
          rw [← q2] at hdd
          have hm1 : 1 ≤ m := by
            rcases Nat.eq_zero_or_pos m with e | e
            · subst e
              have : Lib.decDigits 0 = [48] := by rw [Lib.decDigits, dif_pos (by omega)]; rfl
              rw [this] at hdd
              injection hdd with e1 _
              exact absurd e1.symm hz
            · exact e
          have : s = Lib.itoa (-(m : Int)) := by rw [Lib.itoa_neg m hm1, hdd, ← hd]; exact hmag
          rw [this]
          exact numOf_itoa (by omega) (by omega)
      | false =>
        rw [hn] at h hb
        simp only [cond_false] at h
        split at h
        · cases h
        · rename_i hm2
          cases h
          have hmag : magB s = s := by unfold magB; rw [hn]; rfl
          rw [hmag] at hne q1 q2 hb
          cases s with
          | nil => exact absurd rfl hne
          | cons c l =>
            have hdd := dec_of (c := c) (l := l) q1 (fun e => by
              subst e
              have := hb.2
              simp at this
              exact this)
            rw [← q2] at hdd
            rw [← hdd, ← Lib.itoa_nonneg]
            exact numOf_itoa (by omega) (by omega)
  cases hd : decO s with
  | some v => exact (fwd v hd).symm
  | none =>
    cases hn : numOf s with
    | none => rfl
    | some v =>
      exfalso
      obtain ⟨rfl, h1, h2⟩ := numOf_some hn
      rcases Int.lt_or_le v 0 with h | h
      · obtain ⟨u, rfl⟩ : ∃ u : Nat, v = -(u : Int) := ⟨v.natAbs, by omega⟩
        rw [Lib.itoa_neg u (by omega)] at hd
        have hne := dec_ne u
        have hneg : negB (45 :: Lib.decDigits u) = true := by
          unfold negB
          rw [Bool.and_eq_true]
          refine ⟨decide_eq_true ?_, decide_eq_true rfl⟩
          cases hx : Lib.decDigits u with
          | nil => exact absurd hx hne
          | cons a l => simp
        have hmag : magB (45 :: Lib.decDigits u) = Lib.decDigits u := by unfold magB; rw [hneg]; rfl
        have hbad : badB (45 :: Lib.decDigits u) = false := by
          unfold badB
          rw [hmag, hneg, Bool.or_eq_false_iff]
          refine ⟨decide_eq_false hne, ?_⟩
          rw [Bool.or_true, Bool.and_true]
          refine decide_eq_false fun e => ?_
          have := dec_zero e; omega
        unfold decO at hd
        rw [hbad, hmag, hneg, digs_of _ 0 (dec_dg u) (by rw [dec_val]; omega)] at hd
        cases hd
      · obtain ⟨u, rfl⟩ : ∃ u : Nat, v = u := ⟨v.toNat, by omega⟩
        rw [Lib.itoa_nonneg] at hd
        have hne := dec_ne u
        have hneg : negB (Lib.decDigits u) = false := by
          unfold negB
          cases hx : Lib.decDigits u with
          | nil => exact absurd hx hne
          | cons a l =>
            have ha := dec_dg u a (by rw [hx]; exact List.mem_cons_self ..)
            have : a ≠ 45 := by intro e; subst e; revert ha; decide
            simp [this]
        have hmag : magB (Lib.decDigits u) = Lib.decDigits u := by unfold magB; rw [hneg]; rfl
        have hbad : badB (Lib.decDigits u) = false := by
          unfold badB
          rw [hmag, hneg, Bool.or_eq_false_iff]
          refine ⟨decide_eq_false hne, ?_⟩
          rw [Bool.or_false, Bool.and_eq_false_iff]
          by_cases h48 : (Lib.decDigits u).head? = some 48
          · have := dec_zero h48
            subst this
            refine .inr (decide_eq_false ?_)
            rw [Lib.decDigits, dif_pos (by omega)]; simp
          · exact .inl (decide_eq_false h48)
        unfold decO at hd
        rw [hbad, hmag, hneg, digs_of _ 0 (dec_dg u) (by rw [dec_val]; omega), dec_val] at hd
        simp only [cond_false] at hd
        rw [if_neg (by omega)] at hd
        cases hd
end
end Go.Abs
namespace Go.Abs
noncomputable section
open Go
/-! ## The two readers, apart from the program: what is left of the line, and whether it is wrong -/
abbrev RS := List UInt8 × Bool
def isNC (c : UInt8) : Bool := isDg c || decide (c = 45)
def atoiV (p : List UInt8) : Int := match Lib.atoiAll p with | .ok v => v | .range => Lib.atoiSat p | _ => 0
/-- a sign that must come -/
def cSign (b : List UInt8) (st : RS) : RS := bif b.isPrefixOf st.1 then (st.1.drop b.length, st.2) else (st.1, true)
def cNum (b : List UInt8) (st : RS) : Int × RS := (atoiV (st.1.takeWhile isNC), cSign b (st.1.drop (st.1.takeWhile isNC).length, st.2 || !(numOf (st.1.takeWhile isNC)).isSome))
def cText (st : RS) : List UInt8 × RS :=
  bif (cNum [58] st).2.2 || (decide ((cNum [58] st).1 < 0) || decide ((cNum [58] st).1 > (((cNum [58] st).2.1.length : Nat) : Int))) then ([], ((cNum [58] st).2.1, true))
  else ((cNum [58] st).2.1.take (cNum [58] st).1.toNat, ((cNum [58] st).2.1.drop (cNum [58] st).1.toNat, (cNum [58] st).2.2))
/-- a character that must come -/
def rTake (c : UInt8) (st : RS) : RS := bif st.2 || !(decide (st.1.head? = some c)) then (st.1, true) else (st.1.drop 1, st.2)
def spanR (s : List UInt8) : List UInt8 := match s with | [] => [] | c :: l => bif decide (c = 45) then 45 :: l.takeWhile isDg else (c :: l).takeWhile isDg
/-- what 'decimal' hands back beside its answer -/
def decV (p : List UInt8) : Int := match decO p with | some v => v | none => bif badB p then 0 else match digs 0 (magB p) with | none => 0 | some _ => -9223372036854775808
def rNum (st : RS) : Int × RS := (decV (spanR st.1), (st.1.drop (spanR st.1).length, st.2 || !(decO (spanR st.1)).isSome))
def rCount (L : Nat) (st : RS) : Int × RS := bif decide (0 ≤ (rNum st).1) && decide ((rNum st).1 ≤ ((L : Nat) : Int)) then rNum st else (0, ((rNum st).2.1, true))
def rText (L : Nat) (st : RS) : List UInt8 × RS :=
  bif (rTake 58 (rCount L st).2).2 || decide ((rCount L st).1 > (((rTake 58 (rCount L st).2).1.length : Nat) : Int)) then ([], ((rTake 58 (rCount L st).2).1, true))
  else ((rTake 58 (rCount L st).2).1.take (rCount L st).1.toNat, ((rTake 58 (rCount L st).2).1.drop (rCount L st).1.toNat, (rTake 58 (rCount L st).2).2))

/-- both wrong, or neither, with the same left -/
def Same (a b : RS) : Prop := (a.2 = true ∧ b.2 = true) ∨ (a.2 = false ∧ b.2 = false ∧ a.1 = b.1)
theorem cSign_stick {b : List UInt8} {st : RS} (h : st.2 = true) : (cSign b st).2 = true := by
  unfold cSign
  cases b.isPrefixOf st.1 with
  | true => exact h
  | false => rfl
theorem cNum_stick {b : List UInt8} {st : RS} (h : st.2 = true) : (cNum b st).2.2 = true := cSign_stick (by show (st.2 || _) = true; rw [h]; rfl)
theorem cText_stick {st : RS} (h : st.2 = true) : (cText st).2.2 = true := by
  unfold cText; rw [cNum_stick h]; rfl
theorem rTake_stick {c : UInt8} {st : RS} (h : st.2 = true) : (rTake c st).2 = true := by unfold rTake; rw [h]; rfl
theorem rNum_stick {st : RS} (h : st.2 = true) : (rNum st).2.2 = true := by show (st.2 || _) = true; rw [h]; rfl
theorem rCount_stick {L : Nat} {st : RS} (h : st.2 = true) : (rCount L st).2.2 = true := by
  unfold rCount
  cases decide (0 ≤ (rNum st).1) && decide ((rNum st).1 ≤ ((L : Nat) : Int)) with
  | true => exact rNum_stick h
  | false => rfl
theorem rText_stick {L : Nat} {st : RS} (h : st.2 = true) : (rText L st).2.2 = true := by
  unfold rText; rw [rTake_stick (rCount_stick h)]; rfl

/-! ### numbers -/
theorem isNC_dg {c : UInt8} (h : isDg c = true) : isNC c = true := by unfold isNC; rw [h]; rfl
theorem takeWhile_all {p : UInt8 → Bool} : ∀ {l k : List UInt8}, (∀ c ∈ l, p c = true) → (∀ c, k.head? = some c → p c = false) → (l ++ k).takeWhile p = l
  | [], k, _, h => by
    cases k with
    | nil => rfl
    | cons c k => rw [List.nil_append, List.takeWhile_cons, h c rfl]; rfl
  | a :: l, k, h, hk => by
    rw [List.cons_append, List.takeWhile_cons, h a (List.mem_cons_self ..)]
    simp only [if_true]
    rw [takeWhile_all (fun c hc => h c (List.mem_cons_of_mem _ hc)) hk]
theorem spanR_neg (l : List UInt8) : spanR (45 :: l) = 45 :: l.takeWhile isDg := by
  unfold spanR; rfl
theorem spanR_pos {c : UInt8} (l : List UInt8) (h : c ≠ 45) : spanR (c :: l) = (c :: l).takeWhile isDg := by
  unfold spanR
  simp only [decide_eq_false h, cond_false]
theorem spanR_pre (s : List UInt8) : ∃ k, s = spanR s ++ k ∧ ∀ c, k.head? = some c → isDg c = false := by
  have key : ∀ l : List UInt8, ∃ k, l = l.takeWhile isDg ++ k ∧ ∀ c, k.head? = some c → isDg c = false := by
    intro l
    refine ⟨l.dropWhile isDg, (List.takeWhile_append_dropWhile).symm, fun c hc => ?_⟩
    induction l with
    | nil => cases hc
    | cons a l ih =>
      rw [List.dropWhile_cons] at hc
      split at hc
      · exact ih hc
      · rename_i h
        simp only [List.head?_cons, Option.some.injEq] at hc
        subst hc
        simpa using h
  cases s with
  | nil => exact ⟨[], rfl, fun c hc => by cases hc⟩
  | cons c l =>
    by_cases hc : c = 45
    · subst hc
      obtain ⟨k, h1, h2⟩ := key l
      exact ⟨k, by rw [spanR_neg, List.cons_append, ← h1], h2⟩
    · rw [spanR_pos l hc]; exact key (c :: l)
/-- a numeral: what it looks like -/
theorem itoa_shape (v : Int) : ∃ d, (Lib.itoa v = d ∨ Lib.itoa v = 45 :: d) ∧ d ≠ [] ∧ ∀ c ∈ d, isDg c = true := by
  rcases Int.lt_or_le v 0 with h | h
  · obtain ⟨u, rfl⟩ : ∃ u : Nat, v = -(u : Int) := ⟨v.natAbs, by omega⟩
    exact ⟨_, .inr (Lib.itoa_neg u (by omega)), dec_ne u, dec_dg u⟩
  · obtain ⟨u, rfl⟩ : ∃ u : Nat, v = u := ⟨v.toNat, by omega⟩
    exact ⟨_, .inl (Lib.itoa_nonneg u), dec_ne u, dec_dg u⟩
theorem dg_no {c : UInt8} (h : isDg c = true) : c ≠ 45 := by intro e; subst e; revert h; decide
/-- where a numeral stands ahead of something that is no digit, the reference takes it -/
theorem spanR_num {v : Int} {k : List UInt8} (hk : ∀ c, k.head? = some c → isDg c = false) : spanR (Lib.itoa v ++ k) = Lib.itoa v := by
  obtain ⟨d, hd, hne, hdg⟩ := itoa_shape v
  have ht := takeWhile_all hdg hk
  rcases hd with hd | hd
  · rw [hd]
    cases hx : d with
    | nil => exact absurd hx hne
    | cons a l =>
      rw [hx] at ht hdg
      rw [List.cons_append] at ht ⊢
      rw [spanR_pos _ (dg_no (hdg a (List.mem_cons_self ..)))]
      exact ht
  · rw [hd, List.cons_append, spanR_neg, ht]
theorem nc_num (v : Int) : ∀ c ∈ Lib.itoa v, isNC c = true := by
  obtain ⟨d, hd, hne, hdg⟩ := itoa_shape v
  intro c hc
  rcases hd with hd | hd
  · rw [hd] at hc; exact isNC_dg (hdg c hc)
  · rw [hd] at hc
    rcases List.mem_cons.1 hc with rfl | hc
    · decide
    · exact isNC_dg (hdg c hc)
theorem cspan_num {v : Int} {k : List UInt8} (hk : ∀ c, k.head? = some c → isNC c = false) : (Lib.itoa v ++ k).takeWhile isNC = Lib.itoa v := takeWhile_all (nc_num v) hk
theorem cspan_pre (s : List UInt8) : ∃ k, s = s.takeWhile isNC ++ k ∧ ∀ c, k.head? = some c → isNC c = false := by
  refine ⟨s.dropWhile isNC, (List.takeWhile_append_dropWhile).symm, fun c hc => ?_⟩
  induction s with
  | nil => cases hc
  | cons a l ih =>
    rw [List.dropWhile_cons] at hc
    split at hc
    · exact ih hc
    · rename_i h
      simp only [List.head?_cons, Option.some.injEq] at hc
      subst hc
      simpa using h
theorem nc_dg_no {c : UInt8} (h : isNC c = false) : isDg c = false := by
  unfold isNC at h; rw [Bool.or_eq_false_iff] at h; exact h.1
theorem atoiV_num {p : List UInt8} {v : Int} (h : numOf p = some v) : atoiV p = v := by
  unfold numOf at h
  unfold atoiV
  split at h
  · rename_i x hx
    split at h
    · cases h; rw [hx]
    · cases h
  · cases h
theorem decV_num {p : List UInt8} {v : Int} (h : numOf p = some v) : decV p = v := by
  unfold decV; rw [decO_numOf, h]
/-- the three ends of a number: both take it; neither; the program does not, and the reference has a '-' ahead -/
theorem num_cases (s : List UInt8) :
    (∃ v k, numOf (s.takeWhile isNC) = some v ∧ numOf (spanR s) = some v ∧ s.drop (s.takeWhile isNC).length = k ∧ s.drop (spanR s).length = k) ∨
    (numOf (s.takeWhile isNC) = none ∧ numOf (spanR s) = none) ∨
    (numOf (s.takeWhile isNC) = none ∧ (s.drop (spanR s).length).head? = some 45) := by
  obtain ⟨k, hk, hn⟩ := cspan_pre s
  obtain ⟨k2, hk2, hn2⟩ := spanR_pre s
  cases hc : numOf (s.takeWhile isNC) with
  | some v =>
    obtain ⟨e, _, _⟩ := numOf_some hc
    have hsp : spanR s = Lib.itoa v := by
      conv => lhs; rw [hk, e]
      exact spanR_num fun c h => nc_dg_no (hn c h)
    exact .inl ⟨v, _, rfl, by rw [hsp, ← e]; exact hc, rfl, by rw [hsp, ← e]⟩
  | none =>
    cases hr : numOf (spanR s) with
    | none => exact .inr (.inl ⟨rfl, rfl⟩)
    | some v =>
      obtain ⟨e, _, _⟩ := numOf_some hr
      refine .inr (.inr ⟨rfl, ?_⟩)
      have hd : s.drop (spanR s).length = k2 := by
        conv => lhs; arg 2; rw [hk2]
        exact List.drop_left ..
      rw [hd]
      cases hx : k2 with
      | nil =>
        exfalso
        have : s.takeWhile isNC = Lib.itoa v := by
          rw [hk2, hx, e]; exact cspan_num fun c h => by cases h
        rw [this, ← e, hr] at hc; cases hc
      | cons c l =>
        have hdc := hn2 c (by rw [hx]; rfl)
        cases hnc : isNC c with
        | true =>
          unfold isNC at hnc
          rw [hdc, Bool.false_or] at hnc
          have := of_decide_eq_true hnc
          subst this; rfl
        | false =>
          exfalso
          have : s.takeWhile isNC = Lib.itoa v := by
            rw [hk2, hx, e]; exact cspan_num fun a h => by simp only [List.head?_cons, Option.some.injEq] at h; subst h; exact hnc
          rw [this, ← e, hr] at hc; cases hc
end
end Go.Abs
namespace Go.Abs
noncomputable section
open Go
/-! ## Where a number ends, as strings.IndexFunc finds it -/
def ncNot (r : Nat) : Bool := !(decide (r = 45)) && (decide (r < 48) || decide (57 < r))
theorem dec128 (n b0 b1 b2 b3 : Nat) (h : 128 ≤ b0) : 128 ≤ (Lib.decodeN n b0 b1 b2 b3).1 := by
  unfold Lib.decodeN
  rw [if_neg (by omega)]
  repeat' split
  all_goals (simp only; omega)
theorem ncNot_byte (c : UInt8) : ncNot c.toNat = !isNC c := by
  unfold ncNot isNC isDg
  have : (c = 45) = (c.toNat = 45) := propext ⟨fun e => by rw [e]; rfl, fun e => UInt8.toNat_inj.1 (by rw [e]; rfl)⟩
  simp only [this]
  by_cases h : c.toNat = 45
  · simp [h]
  · rw [Bool.eq_iff_iff]; simp only [h, decide_false, Bool.not_false, Bool.true_and, Bool.or_false, Bool.or_eq_true, decide_eq_true_eq, Bool.not_eq_true', Bool.and_eq_false_iff, decide_eq_false_iff_not]; omega
theorem idx_from (l : List UInt8) : ∀ (f pos : Nat), l.length - pos ≤ f → pos ≤ l.length →
    Lib.idxFuncFrom ncNot true ⟨⟨l⟩⟩ f pos = if pos + ((l.drop pos).takeWhile isNC).length = l.length then -1 else ((pos + ((l.drop pos).takeWhile isNC).length : Nat) : Int)
  | 0, pos, h1, h2 => by
    have : pos = l.length := by omega
    subst this
    rw [List.drop_length]; simp [Lib.idxFuncFrom]
  | f + 1, pos, h1, h2 => by
    have hsz : (⟨⟨l⟩⟩ : ByteArray).size = l.length := rfl
    rw [Lib.idxFuncFrom, hsz]
    by_cases hp : pos < l.length
    · rw [if_pos hp]
      have hg : (⟨⟨l⟩⟩ : ByteArray).get! pos = l[pos] := by
        show (⟨l⟩ : Array UInt8)[pos]! = _
        rw [getElem!_pos (⟨l⟩ : Array UInt8) pos hp]; rfl
      have hd : l.drop pos = l[pos] :: l.drop (pos + 1) := List.drop_eq_getElem_cons hp
      rw [Lib.decode_at, hg]
      cases hc : isNC l[pos] with
      | true =>
        have hlt : l[pos].toNat < 128 := by
          unfold isNC isDg at hc
          simp only [Bool.or_eq_true, Bool.and_eq_true, decide_eq_true_eq] at hc
          rcases hc with ⟨_, h⟩ | h
          · omega
          · rw [h]; decide
        rw [Lib.decodeN_ascii _ _ _ _ _ hlt]
        simp only
        rw [ncNot_byte, hc, if_neg (by simp), idx_from l f (pos + 1) (by omega) (by omega), hd, List.takeWhile_cons, hc]
        simp only [if_true, List.length_cons]
        rw [show pos + 1 + ((l.drop (pos + 1)).takeWhile isNC).length = pos + (((l.drop (pos + 1)).takeWhile isNC).length + 1) by omega]
      | false =>
        have hn : ncNot (Lib.decodeN ((⟨⟨l⟩⟩ : ByteArray).size - pos) l[pos].toNat ((⟨⟨l⟩⟩ : ByteArray).get! (pos + 1)).toNat ((⟨⟨l⟩⟩ : ByteArray).get! (pos + 2)).toNat ((⟨⟨l⟩⟩ : ByteArray).get! (pos + 3)).toNat).1 = true := by
          by_cases h128 : l[pos].toNat < 128
          · rw [Lib.decodeN_ascii _ _ _ _ _ h128]
            simp only
            rw [ncNot_byte, hc]; rfl
          · have := dec128 ((⟨⟨l⟩⟩ : ByteArray).size - pos) l[pos].toNat ((⟨⟨l⟩⟩ : ByteArray).get! (pos + 1)).toNat ((⟨⟨l⟩⟩ : ByteArray).get! (pos + 2)).toNat ((⟨⟨l⟩⟩ : ByteArray).get! (pos + 3)).toNat (by omega)
            unfold ncNot
            simp; omega
        rw [if_pos hn, hd, List.takeWhile_cons, hc]
        simp; omega
    · rw [if_neg hp]
      have : pos = l.length := by omega
      subst this
      rw [List.drop_length]; simp
theorem idx_nc (l : List UInt8) : Lib.idxFunc ncNot true ⟨⟨l⟩⟩ = if (l.takeWhile isNC).length = l.length then -1 else (((l.takeWhile isNC).length : Nat) : Int) := by
  have := idx_from l l.length 0 (by omega) (by omega)
  rw [List.drop_zero, Nat.zero_add] at this
  exact this
end
end Go.Abs
