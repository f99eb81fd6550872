/- A part of the proofs of the laws of logs: see the last text of this claim. -/
import Derived.Test.YtlehhkleemaloaaGreatDoorB0
import Derived.Test.YtlehhkleemaloaaGreatDoorB1
import Derived.Test.YtlehhkleemaloaaGreatDoorB5
namespace Go.Abs
noncomputable section
open Go
theorem cSign_one (c : UInt8) (st : RS) : cSign [c] st = bif decide (st.1.head? = some c) then (st.1.drop 1, st.2) else (st.1, true) := by
  obtain ⟨s, w⟩ := st
  unfold cSign
  cases s with
  | nil => rfl
  | cons a l =>
    by_cases h : a = c
    · subst h; simp
    · have h2 : (c == a) = false := by simpa using fun e : c = a => h e.symm
      simp [List.isPrefixOf, h, h2]
theorem cSign_nil (st : RS) : cSign [] st = st := by
  obtain ⟨s, w⟩ := st
  unfold cSign; simp
theorem cSign_rTake {c : UInt8} {a b : RS} (h : Same a b) : Same (cSign [c] a) (rTake c b) := by
  rcases h with ⟨h1, h2⟩ | ⟨h1, h2, h3⟩
  · exact .inl ⟨cSign_stick h1, rTake_stick h2⟩
  · obtain ⟨s, w⟩ := a
    obtain ⟨s2, w2⟩ := b
    simp only at h1 h2 h3
    subst h1 h2 h3
    rw [cSign_one]
    unfold rTake
    simp only [Bool.false_or]
    cases hd : decide (s.head? = some c) with
    | true => exact .inr ⟨rfl, rfl, rfl⟩
    | false => exact .inl ⟨rfl, rfl⟩
theorem rTake_no {c d : UInt8} {b : RS} (h : b.1.head? = some d) (hne : d ≠ c) : (rTake c b).2 = true := by
  unfold rTake
  rw [h, show decide (some d = some c) = false from decide_eq_false (fun e => hne (Option.some.inj e)), Bool.not_false, Bool.or_true]; rfl
/-- a number and the character behind it -/
theorem num_take {c : UInt8} (hc : isNC c = false) {a b : RS} (h : Same a b) : Same (cNum [c] a).2 (rTake c (rNum b).2) ∧ ((cNum [c] a).2.2 = false → (cNum [c] a).1 = (rNum b).1) := by
  rcases h with ⟨h1, h2⟩ | ⟨h1, h2, h3⟩
  · exact ⟨.inl ⟨cNum_stick h1, rTake_stick (rNum_stick h2)⟩, fun e => by rw [cNum_stick h1] at e; cases e⟩
  · obtain ⟨s, w⟩ := a
    obtain ⟨s2, w2⟩ := b
    simp only at h1 h2 h3
    subst h1 h2 h3
    rcases num_cases s with ⟨v, k, q1, q2, q3, q4⟩ | ⟨q1, q2⟩ | ⟨q1, q2⟩
    · have e1 : cNum [c] (s, false) = (v, cSign [c] (k, false)) := by
        unfold cNum; simp only [atoiV_num q1, q1, q3]; rfl
      have e2 : rNum (s, false) = (v, (k, false)) := by
        unfold rNum; simp only [decV_num q2, decO_numOf, q2, q4]; rfl
      rw [e1, e2]
      exact ⟨cSign_rTake (.inr ⟨rfl, rfl, rfl⟩), fun _ => rfl⟩
    · have e1 : (cNum [c] (s, false)).2.2 = true := by
        unfold cNum; simp only [q1]; exact cSign_stick rfl
      have e2 : (rNum (s, false)).2.2 = true := by
        unfold rNum; simp only [decO_numOf, q2]; rfl
      exact ⟨.inl ⟨e1, rTake_stick e2⟩, fun e => by rw [e1] at e; cases e⟩
    · have e1 : (cNum [c] (s, false)).2.2 = true := by
        unfold cNum; simp only [q1]; exact cSign_stick rfl
      have e2 : (rNum (s, false)).2.1.head? = some 45 := q2
      have hne : (45 : UInt8) ≠ c := by intro e; subst e; revert hc; decide
      exact ⟨.inl ⟨e1, rTake_no e2 hne⟩, fun e => by rw [e1] at e; cases e⟩
theorem cSign_len (b : List UInt8) (st : RS) : (cSign b st).1.length ≤ st.1.length := by
  unfold cSign
  cases b.isPrefixOf st.1 with
  | true => simp only [cond_true, List.length_drop]; omega
  | false => exact Nat.le_refl _
theorem cNum_len (b : List UInt8) (st : RS) : (cNum b st).2.1.length ≤ st.1.length := by
  refine Nat.le_trans (cSign_len _ _) ?_
  simp only [List.length_drop]; omega
theorem cText_len (st : RS) : (cText st).2.1.length ≤ st.1.length := by
  have := cNum_len [58] st
  unfold cText
  cases (cNum [58] st).2.2 || (decide ((cNum [58] st).1 < 0) || decide ((cNum [58] st).1 > (((cNum [58] st).2.1.length : Nat) : Int))) with
  | true => exact this
  | false => simp only [cond_false, List.length_drop]; omega
/-- a text with its length -/
theorem text_same {L : Nat} {a b : RS} (h : Same a b) (hL : a.1.length ≤ L) : Same (cText a).2 (rText L b).2 ∧ ((cText a).2.2 = false → (cText a).1 = (rText L b).1) := by
  obtain ⟨hs, hn⟩ := num_take (c := 58) (by decide) h
  have hlen := cNum_len [58] a
  have wrong : (cText a).2.2 = true → (rText L b).2.2 = true → Same (cText a).2 (rText L b).2 ∧ ((cText a).2.2 = false → (cText a).1 = (rText L b).1) := fun e1 e2 => ⟨.inl ⟨e1, e2⟩, fun e => by rw [e1] at e; cases e⟩
  rcases hs with ⟨h1, h2⟩ | ⟨h1, h2, h3⟩
  · refine wrong ?_ ?_
    · unfold cText; rw [h1]; rfl
    · unfold rText rCount
      cases decide (0 ≤ (rNum b).1) && decide ((rNum b).1 ≤ ((L : Nat) : Int)) with
      | true => simp only [cond_true]; rw [h2]; rfl
      | false => rfl
  · have hn := hn h1
    cases hw : decide (0 ≤ (rNum b).1) && decide ((rNum b).1 ≤ ((L : Nat) : Int)) with
    | false =>
      refine wrong ?_ ?_
      · unfold cText
        rw [h1, Bool.false_or]
        have : (decide ((cNum [58] a).1 < 0) || decide ((cNum [58] a).1 > (((cNum [58] a).2.1.length : Nat) : Int))) = true := by
          rw [hn]
          rw [Bool.and_eq_false_iff] at hw
          rw [Bool.or_eq_true]
          rcases hw with hw | hw
          · exact .inl (decide_eq_true (by have := of_decide_eq_false hw; omega))
          · exact .inr (decide_eq_true (by have := of_decide_eq_false hw; omega))
        rw [this]; rfl
      · unfold rText rCount
        rw [hw]; rfl
    | true =>
      have hc : rCount L b = rNum b := by unfold rCount; rw [hw]; rfl
      rw [Bool.and_eq_true] at hw
      have w1 := of_decide_eq_true hw.1
      unfold cText rText
      rw [hc, h1, h2, h3, hn, show decide ((rNum b).1 < 0) = false from decide_eq_false (by omega)]
      simp only [Bool.false_or]
      cases decide ((rNum b).1 > (((rTake 58 (rNum b).2).1.length : Nat) : Int)) with
      | true => exact ⟨.inl ⟨rfl, rfl⟩, fun e => by cases e⟩
      | false => exact ⟨.inr ⟨rfl, rfl, rfl⟩, fun _ => trivial⟩
end
end Go.Abs
namespace Go.Abs
noncomputable section
open Go
/-! ## Loops of the two readers, and values -/
def cLoop {α : Type} (B : RS → α × RS) (n : Int) : Nat → Int → List α × RS → List α × RS
  | 0, _, r => r
  | f + 1, i, r => bif decide (i < n) && !r.2.2 then cLoop B n f (i + 1) (r.1 ++ [(B r.2).1], (B r.2).2) else r
def rLoop {α : Type} (B : RS → α × RS) : Nat → List α × RS → List α × RS
  | 0, r => r
  | k + 1, r => bif r.2.2 then r else rLoop B k (r.1 ++ [(B r.2).1], (B r.2).2)
section
variable {α : Type} {cB rB : RS → α × RS}
theorem cLoop_wrong {n : Int} : ∀ (f : Nat) (i : Int) (r : List α × RS), r.2.2 = true → cLoop cB n f i r = r
  | 0, i, r, h => rfl
  | f + 1, i, r, h => by unfold cLoop; rw [h, Bool.not_true, Bool.and_false]; rfl
theorem rLoop_wrong : ∀ (k : Nat) (r : List α × RS), r.2.2 = true → rLoop rB k r = r
  | 0, r, h => rfl
  | k + 1, r, h => by unfold rLoop; rw [h]; rfl
theorem cLoop_done {n : Int} (f : Nat) {i : Int} (r : List α × RS) (h : n ≤ i) : cLoop cB n f i r = r := by
  cases f with
  | zero => rfl
  | succ f => unfold cLoop; rw [show decide (i < n) = false from decide_eq_false (by omega), Bool.false_and]; rfl
theorem cLoop_step {n : Int} (f : Nat) {i : Int} (r : List α × RS) (h : i < n) (hw : r.2.2 = false) : cLoop cB n (f + 1) i r = cLoop cB n f (i + 1) (r.1 ++ [(cB r.2).1], (cB r.2).2) := by
  conv => lhs; unfold cLoop
  rw [show decide (i < n) = true from decide_eq_true h, hw]; rfl
theorem rLoop_step (k : Nat) (r : List α × RS) (hw : r.2.2 = false) : rLoop rB (k + 1) r = rLoop rB k (r.1 ++ [(rB r.2).1], (rB r.2).2) := by
  conv => lhs; unfold rLoop
  rw [hw]; rfl
/-- the same rounds -/
theorem loop_same {P : RS → Prop} (hB : ∀ a b, Same a b → (a.2 = false → P a) → Same (cB a).2 (rB b).2 ∧ ((cB a).2.2 = false → (cB a).1 = (rB b).1)) (hP : ∀ a, P a → (cB a).2.2 = false → P (cB a).2 ∧ (cB a).2.1.length < a.1.length) {n : Int} :
    ∀ (k f : Nat) (i : Int) (u v : List α) (a b : RS), n = i + ((k : Nat) : Int) → Same a b → (a.2 = false → u = v ∧ P a ∧ a.1.length + 1 ≤ f) →
      Same (cLoop cB n f i (u, a)).2 (rLoop rB k (v, b)).2 ∧ ((cLoop cB n f i (u, a)).2.2 = false → (cLoop cB n f i (u, a)).1 = (rLoop rB k (v, b)).1)
  | 0, f, i, u, v, a, b, hn, hs, ha => by
    rw [cLoop_done f _ (by omega)]
    exact ⟨hs, fun e => (ha e).1⟩
  | k + 1, f, i, u, v, a, b, hn, hs, ha => by
    rcases hs with ⟨h1, h2⟩ | ⟨h1, h2, h3⟩
    · rw [cLoop_wrong f i (u, a) h1, rLoop_wrong (k + 1) (v, b) h2]
      exact ⟨.inl ⟨h1, h2⟩, fun e => by have e : a.2 = false := e; rw [h1] at e; cases e⟩
    · obtain ⟨rfl, p, hf⟩ := ha h1
      obtain ⟨g, rfl⟩ : ∃ g, f = g + 1 := ⟨f - 1, by omega⟩
      rw [cLoop_step g (u, a) (by omega) h1, rLoop_step k (u, b) h2]
      obtain ⟨q1, q2⟩ := hB a b (.inr ⟨h1, h2, h3⟩) (fun _ => p)
      refine loop_same hB hP k g (i + 1) _ _ _ _ (by omega) q1 fun e => ?_
      have := hP a p e
      exact ⟨by rw [q2 e], this.1, (show (cB a).2.1.length + 1 ≤ g by have := this.2; omega)⟩
/-- more rounds than there are characters end wrong -/
theorem loop_long {P : RS → Prop} (hP : ∀ a, P a → (cB a).2.2 = false → P (cB a).2 ∧ (cB a).2.1.length < a.1.length) {n : Int} :
    ∀ (f : Nat) (i : Int) (u : List α) (a : RS), (a.2 = false → P a ∧ a.1.length + 1 ≤ f ∧ i + ((a.1.length : Nat) : Int) < n) → (cLoop cB n f i (u, a)).2.2 = true
  | 0, i, u, a, ha => by
    cases h : a.2 with
    | true => exact h
    | false => have := (ha h).2.1; omega
  | f + 1, i, u, a, ha => by
    cases h : a.2 with
    | true => rw [cLoop_wrong (f + 1) i (u, a) h]; exact h
    | false =>
      obtain ⟨p, h1, h2⟩ := ha h
      rw [cLoop_step f (u, a) (by omega) h]
      refine loop_long hP f (i + 1) _ _ fun e => ?_
      have := hP a p e
      exact ⟨this.1, (show (cB a).2.1.length + 1 ≤ f by have := this.2; omega), (show i + 1 + (((cB a).2.1.length : Nat) : Int) < n by have := this.2; omega)⟩
theorem cLoop_len (hl : ∀ a, (cB a).2.1.length ≤ a.1.length) {n : Int} : ∀ (f : Nat) (i : Int) (r : List α × RS), (cLoop cB n f i r).2.1.length ≤ r.2.1.length
  | 0, i, r => Nat.le_refl _
  | f + 1, i, r => by
    unfold cLoop
    cases decide (i < n) && !r.2.2 with
    | false => exact Nat.le_refl _
    | true => exact Nat.le_trans (cLoop_len hl f (i + 1) _) (hl r.2)
end
/-- a count, and whether the two readers take it -/
theorem count_cases {L : Nat} {a b : RS} (h : Same a b) :
    ((cNum [] a).2.2 = true ∧ (rCount L b).2.2 = true) ∨
    ((cNum [] a).2.2 = false ∧ (rCount L b).2.2 = false ∧ (cNum [] a).2.1 = (rCount L b).2.1 ∧ (cNum [] a).1 = (rCount L b).1 ∧ 0 ≤ (cNum [] a).1 ∧ (cNum [] a).1 ≤ ((L : Nat) : Int)) ∨
    ((cNum [] a).2.2 = false ∧ ((cNum [] a).1 < 0 ∨ ((L : Nat) : Int) < (cNum [] a).1) ∧ (rCount L b).2.2 = true) ∨
    ((cNum [] a).2.2 = true ∧ (rCount L b).2.1.head? = some 45) := by
  rcases h with ⟨h1, h2⟩ | ⟨h1, h2, h3⟩
  · exact .inl ⟨cNum_stick h1, rCount_stick h2⟩
  · obtain ⟨s, w⟩ := a
    obtain ⟨s2, w2⟩ := b
    simp only at h1 h2 h3
    subst h1 h2 h3
    rcases num_cases s with ⟨v, k, q1, q2, q3, q4⟩ | ⟨q1, q2⟩ | ⟨q1, q2⟩
    · have e1 : cNum [] (s, false) = (v, (k, false)) := by
        unfold cNum; simp only [atoiV_num q1, q1, q3, cSign_nil]; rfl
      have e2 : rNum (s, false) = (v, (k, false)) := by
        unfold rNum; simp only [decV_num q2, decO_numOf, q2, q4]; rfl
      have e3 : rCount L (s, false) = bif decide (0 ≤ v) && decide (v ≤ ((L : Nat) : Int)) then (v, (k, false)) else (0, (k, true)) := by
        unfold rCount; rw [e2]
      rw [e1, e3]
      cases hw : decide (0 ≤ v) && decide (v ≤ ((L : Nat) : Int)) with
      | true =>
        rw [Bool.and_eq_true] at hw
        exact .inr (.inl ⟨rfl, rfl, rfl, rfl, of_decide_eq_true hw.1, of_decide_eq_true hw.2⟩)
      | false =>
        rw [Bool.and_eq_false_iff] at hw
        refine .inr (.inr (.inl ⟨rfl, ?_, rfl⟩))
        rcases hw with hw | hw
        · exact .inl (by have := of_decide_eq_false hw; show v < 0; omega)
        · exact .inr (by have := of_decide_eq_false hw; show _ < v; omega)
    · refine .inl ⟨?_, ?_⟩
      · unfold cNum; simp only [q1]; exact cSign_stick rfl
      · have e2 : (rNum (s, false)).2.2 = true := by unfold rNum; simp only [decO_numOf, q2]; rfl
        unfold rCount
        cases decide (0 ≤ (rNum (s, false)).1) && decide ((rNum (s, false)).1 ≤ ((L : Nat) : Int)) with
        | true => exact e2
        | false => rfl
    · refine .inr (.inr (.inr ⟨?_, ?_⟩))
      · unfold cNum; simp only [q1]; exact cSign_stick rfl
      · unfold rCount
        cases decide (0 ≤ (rNum (s, false)).1) && decide ((rNum (s, false)).1 ≤ ((L : Nat) : Int)) with
        | true => exact q2
        | false => exact q2
/-- a name -/
def cName (st : RS) : List UInt8 × RS := cText (cSign [44] st)
def rName (L : Nat) (st : RS) : List UInt8 × RS := rText L (rTake 44 st)
theorem name_same {L : Nat} {a b : RS} (h : Same a b) (hL : a.1.length ≤ L) : Same (cName a).2 (rName L b).2 ∧ ((cName a).2.2 = false → (cName a).1 = (rName L b).1) :=
  text_same (cSign_rTake h) (Nat.le_trans (cSign_len _ _) hL)
theorem sign_less {c : UInt8} {st : RS} (h : (cSign [c] st).2 = false) : (cSign [c] st).1.length < st.1.length := by
  rw [cSign_one] at h ⊢
  cases hd : decide (st.1.head? = some c) with
  | false => rw [hd] at h; cases h
  | true =>
    have := of_decide_eq_true hd
    simp only [cond_true, List.length_drop]
    cases hs : st.1 with
    | nil => rw [hs] at this; cases this
    | cons x l => simp
theorem name_prog {a : RS} (h : (cName a).2.2 = false) : (cName a).2.1.length < a.1.length := by
  have h1 : (cSign [44] a).2 = false := by
    cases hs : (cSign [44] a).2 with
    | false => rfl
    | true => unfold cName at h; rw [cText_stick hs] at h; cases h
  exact Nat.lt_of_le_of_lt (cText_len _) (sign_less h1)
end
end Go.Abs
namespace Go.Abs
noncomputable section
open Go
/-! ## A value, by the two readers -/
def cA (st : RS) : Int × RS := cNum [44] (cSign [118] st)
def cB (st : RS) : Int × RS := cNum [44] (cA st).2
def cC (st : RS) : Int × RS := cNum [44] (cB st).2
def cD (st : RS) : List UInt8 × RS := cText (cC st).2
def cE (st : RS) : Int × RS := cNum [] (cSign [44] (cD st).2)
def cF (st : RS) : List (List UInt8) × RS := cLoop cName (cE st).1 ((cE st).2.1.length + 1) 0 ([], (cE st).2)
def cG (st : RS) : Int × RS := cNum [] (cSign [44] (cF st).2)
def cH (V : RS → Val × RS) (st : RS) : List Val × RS := cLoop V (cG st).1 ((cG st).2.1.length + 1) 0 ([], (cG st).2)
def cI (V : RS → Val × RS) (st : RS) : RS := cSign [59] (cH V st).2
def cVal : Nat → RS → Val × RS
  | 0, st => (default, (st.1, true))
  | d + 1, st => (.mk (cA st).1 (cB st).1 (cC st).1 (cD st).1 true (cF st).1 true (cH (cVal d) st).1, ((cI (cVal d) st).1, (cI (cVal d) st).2 || (decide ((cE st).1 < 0) || decide ((cG st).1 < 0))))
def rA (st : RS) : Int × RS := rNum (rTake 118 st)
def rB (st : RS) : Int × RS := rNum (rTake 44 (rA st).2)
def rC (st : RS) : Int × RS := rNum (rTake 44 (rB st).2)
def rD (L : Nat) (st : RS) : List UInt8 × RS := rText L (rTake 44 (rC st).2)
def rE (L : Nat) (st : RS) : Int × RS := rCount L (rTake 44 (rD L st).2)
def rF (L : Nat) (st : RS) : List (List UInt8) × RS := rLoop (rName L) (rE L st).1.toNat ([], (rE L st).2)
def rG (L : Nat) (st : RS) : Int × RS := rCount L (rTake 44 (rF L st).2)
def rH (L : Nat) (V : RS → Val × RS) (st : RS) : List Val × RS := rLoop V (rG L st).1.toNat ([], (rG L st).2)
def rI (L : Nat) (V : RS → Val × RS) (st : RS) : RS := rTake 59 (rH L V st).2
def rVal (L : Nat) : Nat → Int → RS → Val × RS
  | 0, _, st => (default, (st.1, true))
  | d + 1, deep, st => bif st.2 || decide (deep > 4000) then (.mk 0 0 0 [] true [] true [], (st.1, true))
    else (.mk (rA st).1 (rB st).1 (rC st).1 (rD L st).1 true (rF L st).1 true (rH L (rVal L d (deep + 1)) st).1, rI L (rVal L d (deep + 1)) st)

theorem cLoop_stick {α : Type} {B : RS → α × RS} {n : Int} {f : Nat} {i : Int} {r : List α × RS} (h : r.2.2 = true) : (cLoop B n f i r).2.2 = true := by rw [cLoop_wrong f i r h]; exact h
theorem rLoop_stick {α : Type} {B : RS → α × RS} {k : Nat} {r : List α × RS} (h : r.2.2 = true) : (rLoop B k r).2.2 = true := by rw [rLoop_wrong k r h]; exact h
-- once wrong, wrong to the end
theorem cE_stick {st : RS} (h : (cSign [118] st).2 = true) : (cE st).2.2 = true := by unfold cE cD cC cB cA; exact cNum_stick (cSign_stick (cText_stick (cNum_stick (cNum_stick (cNum_stick h)))))
theorem cI_of_G {V : RS → Val × RS} {st : RS} (h : (cG st).2.2 = true) : (cI V st).2 = true := by unfold cI cH; exact cSign_stick (cLoop_stick h)
theorem cI_of_F {V : RS → Val × RS} {st : RS} (h : (cF st).2.2 = true) : (cI V st).2 = true := by refine cI_of_G ?_; unfold cG; exact cNum_stick (cSign_stick h)
theorem cI_of_E {V : RS → Val × RS} {st : RS} (h : (cE st).2.2 = true) : (cI V st).2 = true := by refine cI_of_F ?_; unfold cF; exact cLoop_stick h
theorem cVal_fst (d : Nat) (st : RS) : (cVal (d + 1) st).1 = .mk (cA st).1 (cB st).1 (cC st).1 (cD st).1 true (cF st).1 true (cH (cVal d) st).1 := by rw [cVal]
theorem cVal_snd (d : Nat) (st : RS) : (cVal (d + 1) st).2 = ((cI (cVal d) st).1, (cI (cVal d) st).2 || (decide ((cE st).1 < 0) || decide ((cG st).1 < 0))) := by rw [cVal]
theorem cVal_wrong {d : Nat} {st : RS} (h : (cI (cVal d) st).2 = true) : (cVal (d + 1) st).2.2 = true := by
  rw [cVal_snd, h, Bool.true_or]
theorem rI_of_G {L : Nat} {V : RS → Val × RS} {st : RS} (h : (rG L st).2.2 = true) : (rI L V st).2 = true := by unfold rI rH; exact rTake_stick (rLoop_stick h)
theorem rI_of_F {L : Nat} {V : RS → Val × RS} {st : RS} (h : (rTake 44 (rF L st).2).2 = true) : (rI L V st).2 = true := by refine rI_of_G ?_; unfold rG; exact rCount_stick h
theorem rI_of_E {L : Nat} {V : RS → Val × RS} {st : RS} (h : (rE L st).2.2 = true) : (rI L V st).2 = true := by refine rI_of_F ?_; unfold rF; exact rTake_stick (rLoop_stick h)
theorem rI_of_0 {L : Nat} {V : RS → Val × RS} {st : RS} (h : (rTake 118 st).2 = true) : (rI L V st).2 = true := by
  refine rI_of_E ?_
  unfold rE rD rC rB rA
  exact (rCount_stick (rTake_stick (rText_stick (rTake_stick (rNum_stick (rTake_stick (rNum_stick (rTake_stick (rNum_stick h)))))))))
theorem rVal_off {L d : Nat} {deep : Int} {st : RS} (h : st.2 = true) : (rVal L d deep st).2.2 = true := by
  cases d with
  | zero => rfl
  | succ d => rw [rVal, h]; rfl
theorem rVal_head {L d : Nat} {deep : Int} {st : RS} (h : st.1.head? = some 45) : (rVal L d deep st).2.2 = true := by
  cases d with
  | zero => rfl
  | succ d =>
    rw [rVal]
    cases st.2 || decide (deep > 4000) with
    | true => rfl
    | false => exact rI_of_0 (rTake_no h (by decide))
theorem rLoop_head {α : Type} {B : RS → α × RS} (hB : ∀ st : RS, (st.2 = true ∨ st.1.head? = some 45) → (B st).2.2 = true) {c : UInt8} (hc : (45 : UInt8) ≠ c) {k : Nat} {u : List α} {y : RS} (h : y.1.head? = some 45) : (rTake c (rLoop B k (u, y)).2).2 = true := by
  cases k with
  | zero => exact rTake_no h hc
  | succ k =>
    cases hy : y.2 with
    | true => exact rTake_stick (rLoop_stick hy)
    | false => rw [rLoop_step k (u, y) hy]; exact rTake_stick (rLoop_stick (hB y (.inr h)))
theorem name_head {L : Nat} {st : RS} (h : st.2 = true ∨ st.1.head? = some 45) : (rName L st).2.2 = true := by
  unfold rName
  rcases h with h | h
  · exact rText_stick (rTake_stick h)
  · exact rText_stick (rTake_no h (by decide))
theorem cName_len (a : RS) : (cName a).2.1.length ≤ a.1.length := by unfold cName; exact Nat.le_trans (cText_len _) (cSign_len _ _)
theorem cE_len (st : RS) : (cE st).2.1.length ≤ (cSign [118] st).1.length := by
  unfold cE cD cC cB cA
  exact Nat.le_trans (cNum_len _ _) (Nat.le_trans (cSign_len _ _) (Nat.le_trans (cText_len _) (Nat.le_trans (cNum_len _ _) (Nat.le_trans (cNum_len _ _) (cNum_len _ _)))))
theorem cF_len (st : RS) : (cF st).2.1.length ≤ (cE st).2.1.length := by unfold cF; exact cLoop_len cName_len _ _ _
theorem cG_len (st : RS) : (cG st).2.1.length ≤ (cF st).2.1.length := by unfold cG; exact Nat.le_trans (cNum_len _ _) (cSign_len _ _)
theorem cVal_len : ∀ (d : Nat) (st : RS), (cVal d st).2.1.length ≤ st.1.length
  | 0, st => Nat.le_refl _
  | d + 1, st => by
    rw [cVal_snd]
    simp only
    have h1 := cSign_len [59] (cH (cVal d) st).2
    have h2 : (cH (cVal d) st).2.1.length ≤ (cG st).2.1.length := by unfold cH; exact cLoop_len (cVal_len d) _ _ _
    have h3 := cG_len st; have h4 := cF_len st; have h5 := cE_len st; have h6 := cSign_len [118] st
    unfold cI
    omega
theorem cVal_prog {d : Nat} {st : RS} (h : (cVal d st).2.2 = false) : (cVal d st).2.1.length < st.1.length := by
  cases d with
  | zero => cases h
  | succ d =>
    have h0 : (cSign [118] st).2 = false := by
      cases hs : (cSign [118] st).2 with
      | false => rfl
      | true => rw [cVal_wrong (cI_of_E (cE_stick hs))] at h; cases h
    have hl := sign_less h0
    rw [cVal_snd]
    simp only
    have h1 := cSign_len [59] (cH (cVal d) st).2
    have h2 : (cH (cVal d) st).2.1.length ≤ (cG st).2.1.length := by unfold cH; exact cLoop_len (cVal_len d) _ _ _
    have h3 := cG_len st; have h4 := cF_len st; have h5 := cE_len st
    unfold cI
    omega
theorem same_wrong {a b : RS} (h1 : a.2 = true) (h2 : b.2 = true) : Same a b := .inl ⟨h1, h2⟩
theorem names_long {r : Int × RS} (h : ((r.2.1.length : Nat) : Int) < r.1) : (cLoop cName r.1 (r.2.1.length + 1) 0 ([], r.2)).2.2 = true :=
  loop_long (P := fun _ => True) (fun x _ hx => ⟨trivial, name_prog hx⟩) _ 0 [] r.2 fun _ => ⟨trivial, Nat.le_refl _, by rw [Int.zero_add]; exact h⟩
theorem items_long {d : Nat} {r : Int × RS} (h : ((r.2.1.length : Nat) : Int) < r.1) : (cLoop (cVal d) r.1 (r.2.1.length + 1) 0 ([], r.2)).2.2 = true :=
  loop_long (P := fun _ => True) (fun x _ hx => ⟨trivial, cVal_prog hx⟩) _ 0 [] r.2 fun _ => ⟨trivial, Nat.le_refl _, by rw [Int.zero_add]; exact h⟩
theorem names_eq {L : Nat} {x y : Int × RS} (e1 : x.2.2 = false) (e2 : y.2.2 = false) (e3 : x.2.1 = y.2.1) (e4 : x.1 = y.1) (e5 : 0 ≤ x.1) (hL : x.2.1.length ≤ L) :
    Same (cLoop cName x.1 (x.2.1.length + 1) 0 ([], x.2)).2 (rLoop (rName L) y.1.toNat ([], y.2)).2 ∧ ((cLoop cName x.1 (x.2.1.length + 1) 0 ([], x.2)).2.2 = false → (cLoop cName x.1 (x.2.1.length + 1) 0 ([], x.2)).1 = (rLoop (rName L) y.1.toNat ([], y.2)).1) :=
  loop_same (cB := cName) (rB := rName L) (P := fun x => x.1.length ≤ L) (fun x y hxy hP => by
      rcases hxy with ⟨w1, w2⟩ | hxy
      · have hcn : (cName x).2.2 = true := by unfold cName; exact cText_stick (cSign_stick w1)
        exact ⟨same_wrong hcn (name_head (.inl w2)), fun e => by rw [hcn] at e; cases e⟩
      · exact name_same (.inr hxy) (hP hxy.1)) (fun x hx hw => ⟨Nat.le_trans (cName_len x) hx, name_prog hw⟩) (n := x.1)
    y.1.toNat (x.2.1.length + 1) 0 [] [] x.2 y.2 (by rw [Int.zero_add, ← e4, Int.toNat_of_nonneg e5]) (.inr ⟨e1, e2, e3⟩) (fun _ => ⟨rfl, hL, Nat.le_refl _⟩)
theorem items_eq {L d d' m : Nat} {deep : Int} {x y : Int × RS} (ih : ∀ u v : RS, Same u v → (u.2 = false → u.1.length < m) → Same (cVal d u).2 (rVal L d' deep v).2 ∧ ((cVal d u).2.2 = false → (cVal d u).1 = (rVal L d' deep v).1))
    (e1 : x.2.2 = false) (e2 : y.2.2 = false) (e3 : x.2.1 = y.2.1) (e4 : x.1 = y.1) (e5 : 0 ≤ x.1) (hm : x.2.1.length < m) :
    Same (cLoop (cVal d) x.1 (x.2.1.length + 1) 0 ([], x.2)).2 (rLoop (rVal L d' deep) y.1.toNat ([], y.2)).2 ∧ ((cLoop (cVal d) x.1 (x.2.1.length + 1) 0 ([], x.2)).2.2 = false → (cLoop (cVal d) x.1 (x.2.1.length + 1) 0 ([], x.2)).1 = (rLoop (rVal L d' deep) y.1.toNat ([], y.2)).1) :=
  loop_same (cB := cVal d) (rB := rVal L d' deep) (P := fun x => x.1.length < m) ih (fun x hx hw => ⟨Nat.lt_of_le_of_lt (cVal_len d x) hx, cVal_prog hw⟩) (n := x.1)
    y.1.toNat (x.2.1.length + 1) 0 [] [] x.2 y.2 (by rw [Int.zero_add, ← e4, Int.toNat_of_nonneg e5]) (.inr ⟨e1, e2, e3⟩) (fun _ => ⟨rfl, hm, Nat.le_refl _⟩)
/-- the two readers read the same value, or both find none -/
theorem val_same (L : Nat) : ∀ (d d' : Nat) (deep : Int) (a b : RS), Same a b → (a.2 = false → a.1.length < d ∧ a.1.length < d' ∧ deep + ((a.1.length : Nat) : Int) ≤ 4000 ∧ a.1.length ≤ L) →
    Same (cVal d a).2 (rVal L d' deep b).2 ∧ ((cVal d a).2.2 = false → (cVal d a).1 = (rVal L d' deep b).1)
  | 0, d', deep, a, b, hs, ha => by
    rcases hs with ⟨h1, h2⟩ | ⟨h1, h2, h3⟩
    · exact ⟨same_wrong rfl (rVal_off h2), fun e => by cases e⟩
    · have := (ha h1).1; omega
  | d + 1, d', deep, a, b, hs, ha => by
    have bad : (cVal (d + 1) a).2.2 = true → (rVal L d' deep b).2.2 = true → Same (cVal (d + 1) a).2 (rVal L d' deep b).2 ∧ ((cVal (d + 1) a).2.2 = false → (cVal (d + 1) a).1 = (rVal L d' deep b).1) :=
      fun h1 h2 => ⟨same_wrong h1 h2, fun e => by rw [h1] at e; cases e⟩
    rcases hs with ⟨h1, h2⟩ | ⟨h1, h2, h3⟩
    · exact bad (cVal_wrong (cI_of_E (cE_stick (cSign_stick h1)))) (rVal_off h2)
    · obtain ⟨l1, l2, l3, l4⟩ := ha h1
      obtain ⟨d', rfl⟩ : ∃ e, d' = e + 1 := ⟨d' - 1, by omega⟩
      have hdeep : (b.2 || decide (deep > 4000)) = false := by rw [h2, decide_eq_false (by omega)]; rfl
      have hr : rVal L (d' + 1) deep b = (.mk (rA b).1 (rB b).1 (rC b).1 (rD L b).1 true (rF L b).1 true (rH L (rVal L d' (deep + 1)) b).1, rI L (rVal L d' (deep + 1)) b) := by
        rw [rVal, hdeep]; rfl
      rw [hr] at bad ⊢
      simp only at bad ⊢
      -- the head
      have s0 : Same (cSign [118] a) (rTake 118 b) := cSign_rTake (.inr ⟨h1, h2, h3⟩)
      have n1 : Same (cA a).2 (rTake 44 (rA b).2) ∧ ((cA a).2.2 = false → (cA a).1 = (rA b).1) := by unfold cA rA; exact num_take (c := 44) (by decide) s0
      have n2 : Same (cB a).2 (rTake 44 (rB b).2) ∧ ((cB a).2.2 = false → (cB a).1 = (rB b).1) := by unfold cB rB; exact num_take (c := 44) (by decide) n1.1
      have n3 : Same (cC a).2 (rTake 44 (rC b).2) ∧ ((cC a).2.2 = false → (cC a).1 = (rC b).1) := by unfold cC rC; exact num_take (c := 44) (by decide) n2.1
      have lC : (cC a).2.1.length ≤ L := by
        unfold cC cB cA
        exact Nat.le_trans (cNum_len _ _) (Nat.le_trans (cNum_len _ _) (Nat.le_trans (cNum_len _ _) (Nat.le_trans (cSign_len _ _) l4)))
      have n4 : Same (cD a).2 (rD L b).2 ∧ ((cD a).2.2 = false → (cD a).1 = (rD L b).1) := by unfold cD rD; exact text_same (L := L) n3.1 lC
      have s5 : Same (cSign [44] (cD a).2) (rTake 44 (rD L b).2) := cSign_rTake n4.1
      have cs : ((cE a).2.2 = true ∧ (rE L b).2.2 = true) ∨
          ((cE a).2.2 = false ∧ (rE L b).2.2 = false ∧ (cE a).2.1 = (rE L b).2.1 ∧ (cE a).1 = (rE L b).1 ∧ 0 ≤ (cE a).1 ∧ (cE a).1 ≤ ((L : Nat) : Int)) ∨
          ((cE a).2.2 = false ∧ ((cE a).1 < 0 ∨ ((L : Nat) : Int) < (cE a).1) ∧ (rE L b).2.2 = true) ∨
          ((cE a).2.2 = true ∧ (rE L b).2.1.head? = some 45) := by unfold cE rE; exact count_cases (L := L) s5
      have lE := cE_len a
      have l0 := cSign_len [118] a
      have lEL : (cE a).2.1.length ≤ L := Nat.le_trans lE (Nat.le_trans l0 l4)
      rcases cs with ⟨e1, e2⟩ | ⟨e1, e2, e3, e4, e5, e6⟩ | ⟨e1, e2, e3⟩ | ⟨e1, e2⟩
      · exact bad (cVal_wrong (cI_of_E e1)) (rI_of_E e2)
      rotate_left
      · -- the program goes on with a count that the reference refuses
        refine bad ?_ (rI_of_E e3)
        rcases e2 with e2 | e2
        · rw [cVal_snd]
          simp only
          rw [decide_eq_true e2, Bool.true_or, Bool.or_true]
        · refine cVal_wrong (cI_of_F ?_)
          unfold cF
          exact names_long (Int.lt_of_le_of_lt (Int.ofNat_le.2 lEL) e2)
      · refine bad (cVal_wrong (cI_of_E e1)) (rI_of_F ?_)
        unfold rF
        exact rLoop_head (fun st h => name_head h) (by decide) e2
      -- the names
      have h0 : (cSign [118] a).2 = false := by
        cases hs : (cSign [118] a).2 with
        | false => rfl
        | true => rw [cE_stick hs] at e1; cases e1
      have hless := sign_less h0
      have n6 : Same (cF a).2 (rF L b).2 ∧ ((cF a).2.2 = false → (cF a).1 = (rF L b).1) := by
        unfold cF rF
        exact names_eq e1 e2 e3 e4 e5 lEL
      have s7 : Same (cSign [44] (cF a).2) (rTake 44 (rF L b).2) := cSign_rTake n6.1
      have cs2 : ((cG a).2.2 = true ∧ (rG L b).2.2 = true) ∨
          ((cG a).2.2 = false ∧ (rG L b).2.2 = false ∧ (cG a).2.1 = (rG L b).2.1 ∧ (cG a).1 = (rG L b).1 ∧ 0 ≤ (cG a).1 ∧ (cG a).1 ≤ ((L : Nat) : Int)) ∨
          ((cG a).2.2 = false ∧ ((cG a).1 < 0 ∨ ((L : Nat) : Int) < (cG a).1) ∧ (rG L b).2.2 = true) ∨
          ((cG a).2.2 = true ∧ (rG L b).2.1.head? = some 45) := by unfold cG rG; exact count_cases (L := L) s7
      have lF := cF_len a
      have lG := cG_len a
      have lGL : (cG a).2.1.length ≤ L := Nat.le_trans lG (Nat.le_trans lF lEL)
      have lGa : (cG a).2.1.length < a.1.length := Nat.lt_of_le_of_lt lG (Nat.lt_of_le_of_lt lF (Nat.lt_of_le_of_lt lE hless))
      rcases cs2 with ⟨g1, g2⟩ | ⟨g1, g2, g3, g4, g5, g6⟩ | ⟨g1, g2, g3⟩ | ⟨g1, g2⟩
      · exact bad (cVal_wrong (cI_of_G g1)) (rI_of_G g2)
      rotate_left
      · refine bad ?_ (rI_of_G g3)
        rcases g2 with g2 | g2
        · rw [cVal_snd]
          simp only
          rw [decide_eq_true g2, Bool.or_true, Bool.or_true]
        · exact cVal_wrong (by unfold cI cH; exact cSign_stick (items_long (Int.lt_of_le_of_lt (Int.ofNat_le.2 lGL) g2)))
      · refine bad (cVal_wrong (cI_of_G g1)) ?_
        unfold rI rH
        exact rLoop_head (fun st h => by rcases h with h | h; exact rVal_off h; exact rVal_head h) (by decide) g2
      -- the items
      have fine : ∀ x : RS, x.1.length < a.1.length → x.1.length < d ∧ x.1.length < d' ∧ (deep + 1) + ((x.1.length : Nat) : Int) ≤ 4000 ∧ x.1.length ≤ L := fun x hx => by omega
      have n8 : Same (cH (cVal d) a).2 (rH L (rVal L d' (deep + 1)) b).2 ∧ ((cH (cVal d) a).2.2 = false → (cH (cVal d) a).1 = (rH L (rVal L d' (deep + 1)) b).1) := by
        unfold cH rH
        exact items_eq (fun x y hxy hP => val_same L d d' (deep + 1) x y hxy fun hw => fine x (hP hw)) g1 g2 g3 g4 g5 lGa
      have s9 : Same (cI (cVal d) a) (rI L (rVal L d' (deep + 1)) b) := by unfold cI rI; exact cSign_rTake n8.1
      have hneg : (decide ((cE a).1 < 0) || decide ((cG a).1 < 0)) = false := by rw [decide_eq_false (Int.not_lt.2 e5), decide_eq_false (Int.not_lt.2 g5)]; rfl
      have hc : (cVal (d + 1) a).2 = cI (cVal d) a := by
        rw [cVal_snd, hneg, Bool.or_false]
      rw [hc]
      refine ⟨s9, fun e => ?_⟩
      -- what is right at the end was right all along
      have fH : (cH (cVal d) a).2.2 = false := by
        cases hh : (cH (cVal d) a).2.2 with
        | false => rfl
        | true => rw [show (cI (cVal d) a).2 = true by unfold cI; exact cSign_stick hh] at e; cases e
      have fF : (cF a).2.2 = false := by
        cases hh : (cF a).2.2 with
        | false => rfl
        | true => rw [cI_of_F hh] at e; cases e
      have fD : (cD a).2.2 = false := by
        cases hh : (cD a).2.2 with
        | false => rfl
        | true => rw [show (cE a).2.2 = true by unfold cE; exact cNum_stick (cSign_stick hh)] at e1; cases e1
      have fC : (cC a).2.2 = false := by
        cases hh : (cC a).2.2 with
        | false => rfl
        | true => rw [show (cD a).2.2 = true by unfold cD; exact cText_stick hh] at fD; cases fD
      have fB : (cB a).2.2 = false := by
        cases hh : (cB a).2.2 with
        | false => rfl
        | true => rw [show (cC a).2.2 = true by unfold cC; exact cNum_stick hh] at fC; cases fC
      have fA : (cA a).2.2 = false := by
        cases hh : (cA a).2.2 with
        | false => rfl
        | true => rw [show (cB a).2.2 = true by unfold cB; exact cNum_stick hh] at fB; cases fB
      rw [cVal_fst]
      rw [n1.2 fA, n2.2 fB, n3.2 fC, n4.2 fD, n6.2 fF, n8.2 fH]
end
end Go.Abs
namespace Go.Abs
noncomputable section
open Go
/-! ## An event with a line, by the two readers -/
def qA (s : List UInt8) : Int × RS := cNum [32] (s, false)
def qB (s : List UInt8) : Int × RS := cNum [32] (qA s).2
def qC (s : List UInt8) : Int × RS := cNum [32] (qB s).2
def qD (s : List UInt8) : List UInt8 × RS := cText (qC s).2
def qE (s : List UInt8) : List UInt8 × RS := cText (cSign [32] (qD s).2)
def qF (s : List UInt8) : Val × RS := cVal (s.length + 1) (cSign [32] (qE s).2)
def cEv (s : List UInt8) : Ev := ⟨(qA s).1, (qB s).1, (qD s).1, (qE s).1, (qF s).1, (qC s).1⟩
def cParse (s : List UInt8) : Ev × Int :=
  bif decide (((lenN s : Nat) : Int) > 4000) then (default, 2) else bif (qF s).2.2 || !(decide ((qF s).2.1 = [])) then (default, 8) else
  bif evErr (cEv s) != 0 then (default, evErr (cEv s)) else (cEv s, 0)
def pA (s : List UInt8) : Int × RS := rNum (s, false)
def pB (s : List UInt8) : Int × RS := rNum (rTake 32 (pA s).2)
def pC (s : List UInt8) : Int × RS := rNum (rTake 32 (pB s).2)
def pD (s : List UInt8) : List UInt8 × RS := rText s.length (rTake 32 (pC s).2)
def pE (s : List UInt8) : List UInt8 × RS := rText s.length (rTake 32 (pD s).2)
def pF (s : List UInt8) : Val × RS := rVal s.length (s.length + 1) 0 (rTake 32 (pE s).2)
def rEv (s : List UInt8) : Ev := ⟨(pA s).1, (pB s).1, (pD s).1, (pE s).1, (pF s).1, (pC s).1⟩
def rParse (s : List UInt8) : Ev × Int :=
  bif decide (((lenN s : Nat) : Int) > 4000) then (default, 2) else bif (pF s).2.2 || !(decide ((pF s).2.1 = [])) then (default, 8) else
  bif evErr (rEv s) != 0 then (default, evErr (rEv s)) else (rEv s, 0)
theorem parse_same (s : List UInt8) : cParse s = rParse s := by
  unfold cParse rParse
  cases hlen : decide (((lenN s : Nat) : Int) > 4000) with
  | true => simp only [cond_true]
  | false =>
  have h4 : s.length ≤ 4000 := by have := of_decide_eq_false hlen; rw [lenN_eq] at this; omega
  simp only [cond_false]
  have s0 : Same (s, false) (s, false) := .inr ⟨rfl, rfl, rfl⟩
  have n1 : Same (qA s).2 (rTake 32 (pA s).2) ∧ ((qA s).2.2 = false → (qA s).1 = (pA s).1) := by unfold qA pA; exact num_take (c := 32) (by decide) s0
  have n2 : Same (qB s).2 (rTake 32 (pB s).2) ∧ ((qB s).2.2 = false → (qB s).1 = (pB s).1) := by unfold qB pB; exact num_take (c := 32) (by decide) n1.1
  have n3 : Same (qC s).2 (rTake 32 (pC s).2) ∧ ((qC s).2.2 = false → (qC s).1 = (pC s).1) := by unfold qC pC; exact num_take (c := 32) (by decide) n2.1
  have l3 : (qC s).2.1.length ≤ s.length := by
    unfold qC qB qA
    exact Nat.le_trans (cNum_len _ _) (Nat.le_trans (cNum_len _ _) (cNum_len _ _))
  have n4 : Same (qD s).2 (pD s).2 ∧ ((qD s).2.2 = false → (qD s).1 = (pD s).1) := by unfold qD pD; exact text_same n3.1 l3
  have l4 : (cSign [32] (qD s).2).1.length ≤ s.length := by
    refine Nat.le_trans (cSign_len _ _) (Nat.le_trans ?_ l3)
    unfold qD; exact cText_len _
  have n5 : Same (qE s).2 (pE s).2 ∧ ((qE s).2.2 = false → (qE s).1 = (pE s).1) := by unfold qE pE; exact text_same (cSign_rTake n4.1) l4
  have l5 : (cSign [32] (qE s).2).1.length ≤ s.length := by
    refine Nat.le_trans (cSign_len _ _) (Nat.le_trans ?_ l4)
    unfold qE; exact cText_len _
  have n6 : Same (qF s).2 (pF s).2 ∧ ((qF s).2.2 = false → (qF s).1 = (pF s).1) := by
    unfold qF pF
    refine val_same s.length (s.length + 1) (s.length + 1) 0 _ _ (cSign_rTake n5.1) fun _ => ⟨Nat.lt_succ_of_le l5, Nat.lt_succ_of_le l5, ?_, l5⟩
    generalize (cSign [32] (qE s).2).1.length = x at l5 ⊢
    omega
  rcases n6.1 with ⟨h1, h2⟩ | ⟨h1, h2, h3⟩
  · rw [h1, h2]; simp only [Bool.true_or, cond_true]
  · rw [h1, h2, h3]
    have fE : (qE s).2.2 = false := by
      cases hh : (qE s).2.2 with
      | false => rfl
      | true =>
        have : (qF s).2.2 = true := by unfold qF; exact cVal_wrong (cI_of_E (cE_stick (cSign_stick (cSign_stick hh))))
        rw [this] at h1; cases h1
    have fD : (qD s).2.2 = false := by
      cases hh : (qD s).2.2 with
      | false => rfl
      | true =>
        have : (qE s).2.2 = true := by unfold qE; exact cText_stick (cSign_stick hh)
        rw [this] at fE; cases fE
    have fC : (qC s).2.2 = false := by
      cases hh : (qC s).2.2 with
      | false => rfl
      | true =>
        have : (qD s).2.2 = true := by unfold qD; exact cText_stick hh
        rw [this] at fD; cases fD
    have fB : (qB s).2.2 = false := by
      cases hh : (qB s).2.2 with
      | false => rfl
      | true =>
        have : (qC s).2.2 = true := by unfold qC; exact cNum_stick hh
        rw [this] at fC; cases fC
    have fA : (qA s).2.2 = false := by
      cases hh : (qA s).2.2 with
      | false => rfl
      | true =>
        have : (qB s).2.2 = true := by unfold qB; exact cNum_stick hh
        rw [this] at fB; cases fB
    have e : cEv s = rEv s := by unfold cEv rEv; rw [n1.2 fA, n2.2 fB, n3.2 fC, n4.2 fD, n5.2 fE, n6.2 h1]
    rw [e]
end
end Go.Abs
namespace Go.Abs
noncomputable section
open Go Go.Proofs
variable {K : Nat}
/-! ## Pieces of strings -/
theorem bound_int {n : Int} {d : Nat} (h : 0 ≤ n) : boundA (some (.int .i64 n)) d = some n.toNat := by
  cases n with
  | ofNat n => rfl
  | negSucc n => omega
theorem str_mid {s : List UInt8} {a b : Int} (h0 : 0 ≤ a) (h1 : a ≤ b) (h2 : b ≤ ((s.length : Nat) : Int)) (hp : Heap) :
    keep hp (opSlice (Cg K) hp 9 (.str s) (some (.int .i64 a)) (some (.int .i64 b)) none) = some (.str ((s.drop a.toNat).take (b.toNat - a.toNat)), hp) := by
  have e : keep hp (opSlice (Cg K) hp 9 (.str s) (some (.int .i64 a)) (some (.int .i64 b)) none) = keep hp (match boundsA (some (.int .i64 a)) (some (.int .i64 b)) none (lenN s) (lenN s) with
    | some (l, h, _) => some (.str (takeN (dropN s l) (Nat.sub h l)))
    | none => none) := by kernel_rfl
  rw [e]
  unfold boundsA
  rw [bound_int h0, bound_int (by omega)]
  have hc : cutOk a.toNat b.toNat (lenN s) (lenN s) = true := by
    unfold cutOk
    rw [lenN_eq]
    simp only [Bool.and_eq_true]
    refine ⟨?_, ?_, ?_⟩ <;> exact Nat.ble_eq_true_of_le (by omega)
  show keep hp (match (bif cutOk a.toNat b.toNat (lenN s) (lenN s) && _ then some (a.toNat, b.toNat, lenN s) else none) with
    | some (l, h, _) => some (AV.str (takeN (dropN s l) (Nat.sub h l)))
    | none => none) = _
  rw [hc]
  show some (AV.str (takeN (dropN s a.toNat) (Nat.sub b.toNat a.toNat)), hp) = _
  rw [takeN_eq, dropN_eq]; rfl
theorem str_to {s : List UInt8} {b : Int} (h1 : 0 ≤ b) (h2 : b ≤ ((s.length : Nat) : Int)) (hp : Heap) :
    keep hp (opSlice (Cg K) hp 9 (.str s) none (some (.int .i64 b)) none) = some (.str (s.take b.toNat), hp) := by
  have e : keep hp (opSlice (Cg K) hp 9 (.str s) none (some (.int .i64 b)) none) = keep hp (opSlice (Cg K) hp 9 (.str s) (some (.int .i64 ((0 : Nat) : Int))) (some (.int .i64 b)) none) := by kernel_rfl
  rw [e, str_mid (by omega) (by omega) h2]; rfl
theorem str_from {s : List UInt8} {a : Int} (h1 : 0 ≤ a) (h2 : a ≤ ((s.length : Nat) : Int)) (hp : Heap) :
    keep hp (opSlice (Cg K) hp 9 (.str s) (some (.int .i64 a)) none none) = some (.str (s.drop a.toNat), hp) := by
  have e : keep hp (opSlice (Cg K) hp 9 (.str s) (some (.int .i64 a)) none none) = keep hp (opSlice (Cg K) hp 9 (.str s) (some (.int .i64 a)) (some (.int .i64 ((lenN s : Nat) : Int))) none) := by kernel_rfl
  rw [e, lenN_eq, str_mid h1 h2 (Int.le_refl _)]
  rw [List.take_of_length_le (by rw [List.length_drop]; omega)]
theorem prefix_take (s b : List UInt8) : (decide (((lenN s : Nat) : Int) ≥ ((lenN b : Nat) : Int)) && beqBytes (s.take b.length) b) = b.isPrefixOf s := by
  rw [lenN_eq, lenN_eq]
  cases h : b.isPrefixOf s with
  | true =>
    obtain ⟨t, rfl⟩ := List.isPrefixOf_iff_prefix.1 h
    rw [Bool.and_eq_true]
    refine ⟨decide_eq_true (by rw [List.length_append]; omega), ?_⟩
    simp [beqBytes_self]
  | false =>
    cases h2 : decide (((s.length : Nat) : Int) ≥ ((b.length : Nat) : Int)) && beqBytes (s.take b.length) b with
    | false => rfl
    | true =>
      exfalso
      rw [Bool.and_eq_true] at h2
      have h3 : s.take b.length = b := by have := h2.2; rw [beqBytes_eq] at this; exact eq_of_beq this
      have : b <+: s := by have h4 := List.take_prefix b.length s; rwa [h3] at h4
      rw [List.isPrefixOf_iff_prefix.2 this] at h
      cases h

/-! ## Rows of one's own, whose numbers lie from lo to bd -/
def OwnR (h : Heap) (v : AV) (e size : Nat) (cs : List AV) (n lo bd : Nat) : Prop :=
  lo ≤ bd ∧ bd ≤ h.next ∧ ((v = .nils ∧ n = 0 ∧ cs = []) ∨ ∃ id b, v = .slO id 0 size n n false ∧ (lo ≤ id ∧ id < bd ∧ lo ≤ b.grp ∧ b.grp < bd) ∧ h.get id = some b ∧ b.cells = cs ∧ b.frz = false ∧ b.kind = .row ∧ b.el = e ∧ cs.length = n * size ∧ 0 < n)
section
variable {h h' : Heap} {v x : AV} {e size n lo bd bytes : Nat} {cs nw : List AV} {s : St}
theorem OwnR.nil (h : Heap) (e size : Nat) {lo : Nat} (hl : lo ≤ h.next) : OwnR h .nils e size [] 0 lo h.next := ⟨hl, Nat.le_refl _, .inl ⟨rfl, rfl, rfl⟩⟩
theorem OwnR.new {el : Nat} {wh : Bool} {c : List AV} (O : OwnR h v e size cs n lo bd) : OwnR (h.new el wh c) v e size cs n lo bd := by
  obtain ⟨hl, hb, O⟩ := O
  refine ⟨hl, Nat.le_succ_of_le hb, ?_⟩
  rcases O with O | ⟨id, b, h1, h2, h3, h4⟩
  · exact .inl O
  · exact .inr ⟨id, b, h1, h2, by unfold Heap.new; rw [Heap.get_add, if_neg (by omega)]; exact h3, h4⟩
theorem OwnR.set {j : Nat} {b' : Blk} (hj : j < lo ∨ bd ≤ j) (O : OwnR h v e size cs n lo bd) : OwnR (h.set j b') v e size cs n lo bd := by
  obtain ⟨hl, hb, O⟩ := O
  refine ⟨hl, hb, ?_⟩
  rcases O with O | ⟨id, b, h1, h2, h3, h4⟩
  · exact .inl O
  · exact .inr ⟨id, b, h1, h2, by rw [Heap.get_set, if_neg (by omega)]; exact h3, h4⟩
theorem OwnR.grow (O : OwnR h v e size cs n lo bd) : OwnR h v e size cs n lo h.next := by
  obtain ⟨hl, hb, O⟩ := O
  refine ⟨by omega, Nat.le_refl _, ?_⟩
  rcases O with O | ⟨id, b, h1, h2, h3⟩
  · exact .inl O
  · exact .inr ⟨id, b, h1, by omega, h3⟩
/-- what others append to leaves it as it is -/
def Keeps2 (h h' : Heap) (lo : Nat) : Prop := h.next ≤ h'.next ∧ ∀ j b, h.get j = some b → j < h.next → b.grp < lo → h'.get j = some b
theorem OwnR.keep {lo' : Nat} (k : Keeps2 h h' lo') (hl : bd ≤ lo') (O : OwnR h v e size cs n lo bd) : OwnR h' v e size cs n lo bd := by
  obtain ⟨h0, hb, O⟩ := O
  refine ⟨h0, Nat.le_trans hb k.1, ?_⟩
  rcases O with O | ⟨id, b, h1, h2, h3, h4⟩
  · exact .inl O
  · exact .inr ⟨id, b, h1, h2, k.2 id b h3 (by omega) (by omega), h4⟩
theorem OwnR.flat {k : Nat} (O : OwnR h v e size cs n lo bd) : beqAV (k + 1) v v = true := by
  rcases O.2.2 with ⟨rfl, _, _⟩ | ⟨id, b, rfl, _⟩
  · rfl
  · show (Nat.beq id id && (Nat.beq 0 0 && (Nat.beq size size && (Nat.beq n n && (Nat.beq n n && false == false))))) = true
    simp [Nat.beq_refl]
theorem append_ownr (O : OwnR h v e size cs n lo bd) (hx : lenA x = some 1) (hf : firstA h size 1 x = some nw) (hl : nw.length = size) (hr : roomOk (n + 1) bytes = true) :
    ∃ v' h', appendA h e size bytes v x = some (v', h') ∧ OwnR h' v' e size (cs ++ nw) (n + 1) lo h'.next ∧ Keeps2 h h' lo := by
  obtain ⟨h0, hb, O⟩ := O
  rcases O with ⟨rfl, rfl, rfl⟩ | ⟨id, b, rfl, h2, h3, rfl, h5, h6, rfl, h8, h9⟩
  · refine ⟨.slO h.next 0 size 1 1 false, h.new e false nw, ?_, ⟨?_, Nat.le_refl _, .inr ⟨h.next, newBlk h.next e false nw, rfl, ⟨?_, Nat.lt_succ_self _, ?_, Nat.lt_succ_self _⟩, ?_, rfl, rfl, rfl, rfl, by simpa using hl, by omega⟩⟩, Nat.le_succ _, ?_⟩
    · unfold appendA
      rw [hx]
      simp only [hf]
      rw [show roomOk 1 bytes = true from hr]
      rfl
    · show lo ≤ h.next + 1; omega
    · omega
    · show lo ≤ h.next; omega
    · unfold Heap.new; rw [Heap.get_add, if_pos rfl]
    · intro j c e1 e2 _
      unfold Heap.new; rw [Heap.get_add, if_neg (by omega)]; exact e1
  · have hA : appendA h b.el size bytes (.slO id 0 size n n false) x = appendFork h id 0 n size 1 b (b.cells ++ nw) := by
      unfold appendA
      rw [hx]
      simp only [hf]
      unfold appendO
      rw [show Nat.beq size size = true from Nat.beq_refl _]
      simp only [Bool.not_true, cond_false]
      have hn : Nat.ble (Nat.add n 1) n = false := by
        cases hh : Nat.ble (Nat.add n 1) n with
        | false => rfl
        | true => have : n + 1 ≤ n := Nat.le_of_ble_eq_true hh; omega
      rw [hn]
      simp only [cond_false]
      rw [show roomOk (Nat.add n 1) bytes = true from hr]
      simp only [Bool.not_true, cond_false]
      have hc : cellsAt h id 0 (Nat.mul n size) = some b.cells := by
        unfold cellsAt
        rw [h3]
        simp only [h6]
        show (bif true then partN b.cells 0 (n * size) else none) = _
        unfold partN
        simp only [cond_true, lenN_eq, takeN_eq, dropN_eq]
        rw [show Nat.ble (Nat.add 0 (n * size)) b.cells.length = true from Nat.ble_eq_true_of_le (by rw [h8]; show 0 + n * size ≤ _; omega)]
        simp [← h8]
      rw [hc]
      simp only [h3, h5, Bool.false_or]
      rw [show Nat.beq b.el b.el = true from Nat.beq_refl _]
      rfl
    have S : Sim b.grp h (killAll (h.set id { b with forked := true, ver := Nat.succ b.ver }) h.next b.grp (Nat.add (Nat.add b.base 0) (Nat.mul n size)) (Nat.add (Nat.add (Nat.add b.base 0) (Nat.mul n size)) (Nat.mul 1 size)) h.next) := Sim.ks h3 rfl rfl
    refine ⟨_, _, hA, ⟨?_, Nat.le_refl _, .inr ⟨h.next, { cells := b.cells ++ nw, grp := b.grp, base := Nat.add b.base 0, forked := true, frz := false, ver := 0, el := b.el, whole := false, kind := .row }, rfl, ⟨by omega, ?_, h2.2.2.1, ?_⟩, ?_, rfl, rfl, rfl, rfl, ?_, Nat.succ_pos _⟩⟩, ?_, ?_⟩
    · rw [Heap.next_add, S.next]; show lo ≤ h.next + 1; omega
    · rw [Heap.next_add, S.next]; exact Nat.lt_succ_self _
    · rw [Heap.next_add, S.next]; show b.grp < h.next + 1; omega
    · rw [Heap.get_add, if_pos S.next.symm]
    · rw [List.length_append, h8, hl, Nat.succ_mul]
    · rw [Heap.next_add, S.next]; exact Nat.le_succ _
    · intro j c e1 e2 e3
      rw [Heap.get_add, if_neg (by rw [S.next]; omega)]
      exact S.other j c e1 (by omega)
theorem freeze_ownr {k : Nat} (O : OwnR h v e size cs n lo bd) (hf : ∀ c ∈ cs, freezeA h k c = some c) : freezeA h (k + 1) v = some (sliceA true cs n) := by
  obtain ⟨_, hb, O⟩ := O
  rcases O with ⟨rfl, rfl, rfl⟩ | ⟨id, b, rfl, h2, h3, rfl, h5, h6, rfl, h8, h9⟩
  · rfl
  · rw [freezeA_succ]
    simp only
    have hc : cellsAt h id 0 (Nat.mul n size) = some b.cells := by
      unfold cellsAt
      rw [h3]
      simp only [h6]
      show (bif true then partN b.cells 0 (n * size) else none) = _
      unfold partN
      simp only [cond_true, lenN_eq, takeN_eq, dropN_eq]
      rw [show Nat.ble (Nat.add 0 (n * size)) b.cells.length = true from Nat.ble_eq_true_of_le (by rw [h8]; show 0 + n * size ≤ _; omega)]
      simp [← h8]
    rw [hc]
    simp only [freezeL_same _ hf]
    cases n with
    | zero => omega
    | succ n => rfl
end
/-! ## Texts, and values, of one's own -/
def OwnT (h : Heap) (v : AV) (l : List (List UInt8)) (lo bd : Nat) : Prop := OwnR h v 9 1 (l.map .str) l.length lo bd
def OwnV (h : Heap) (v : AV) (l : List Val) (lo bd : Nat) : Prop := OwnR h v 35 6 (cellsL l) l.length lo bd
theorem OwnT.freeze {h : Heap} {v : AV} {l : List (List UInt8)} {lo bd k : Nat} (O : OwnT h v l lo bd) : freezeA h (k + 2) v = some (textsA true l) := by
  refine freeze_ownr O fun c hc => ?_
  obtain ⟨e, _, rfl⟩ := List.mem_map.1 hc
  rfl
theorem freeze_sl (h : Heap) (k : Nat) (b : Bool) (cs : List AV) (n : Nat) : freezeA h (k + 1) (sliceA b cs n) = some (sliceA b cs n) := by
  cases n with
  | zero => cases b <;> rfl
  | succ n => rfl
theorem cellsL_froz (h : Heap) (k : Nat) : ∀ (l : List Val), ∀ c ∈ cellsL l, freezeA h (k + 1) c = some c
  | [], c, hc => by rw [cellsL] at hc; cases hc
  | v :: l, c, hc => by
    rw [cellsL, List.mem_append] at hc
    rcases hc with hc | hc
    · rw [cells_eq] at hc
      simp only [List.mem_cons, List.not_mem_nil, or_false] at hc
      rcases hc with rfl | rfl | rfl | rfl | rfl | rfl <;> first | rfl | exact freeze_sl _ _ _ _ _
    · exact cellsL_froz h k l c hc
theorem OwnV.freeze {h : Heap} {v : AV} {l : List Val} {lo bd k : Nat} (O : OwnV h v l lo bd) : freezeA h (k + 2) v = some (sliceA true (cellsL l) l.length) :=
  freeze_ownr O (cellsL_froz h k l)
theorem cellsL_app : ∀ (l k : List Val), cellsL (l ++ k) = cellsL l ++ cellsL k
  | [], k => by rw [List.nil_append, cellsL, List.nil_append]
  | v :: l, k => by rw [List.cons_append, cellsL, cellsL, cellsL_app l k, List.append_assoc]
theorem append_t {h : Heap} {v : AV} {l : List (List UInt8)} {lo bd id g ver : Nat} {s : List UInt8} (O : OwnT h v l lo bd) (hl : l.length ≤ 1000000) (hg : h.get id = some (bk g 9 true ver [.str s])) :
    ∃ v' h', builtinA (Cg K) h .append #[29, 29] [v, .slO id 0 1 1 1 true] = some (v', h') ∧ OwnT h' v' (l ++ [s]) lo h'.next ∧ Keeps2 h h' lo := by
  have hf : firstA h 1 1 (.slO id 0 1 1 1 true) = some [.str s] := by
    show cellsAt h id 0 (Nat.mul 1 1) = _
    unfold cellsAt
    rw [hg]; rfl
  obtain ⟨v', h', h1, h2, h3⟩ := append_ownr (bytes := 16) O rfl hf rfl (by
    show (Nat.ble (Nat.mul (l.length + 1) 16) 140737488355328 && Nat.ble (l.length + 1) 4611686018427387904) = true
    rw [Bool.and_eq_true]
    exact ⟨Nat.ble_eq_true_of_le (show (l.length + 1) * 16 ≤ _ by omega), Nat.ble_eq_true_of_le (by omega)⟩)
  refine ⟨v', h', ?_, ?_, h3⟩
  · have : builtinA (Cg K) h .append #[29, 29] [v, .slO id 0 1 1 1 true] = appendA h 9 1 16 v (.slO id 0 1 1 1 true) := by kernel_rfl
    rw [this]; exact h1
  · unfold OwnT
    rw [List.map_append, List.length_append]
    exact h2
theorem append_v {h : Heap} {v : AV} {l : List Val} {lo bd id g ver : Nat} {x : Val} (O : OwnV h v l lo bd) (hl : l.length ≤ 1000000) (hg : h.get id = some (bk g 35 true ver x.six)) :
    ∃ v' h', builtinA (Cg K) h .append #[33, 33] [v, .slO id 0 6 1 1 true] = some (v', h') ∧ OwnV h' v' (l ++ [x]) lo h'.next ∧ Keeps2 h h' lo := by
  have hf : firstA h 6 1 (.slO id 0 6 1 1 true) = some x.six := by
    show cellsAt h id 0 (Nat.mul 1 6) = _
    unfold cellsAt
    rw [hg]; rfl
  have hb : bytesT (Cg K) 35 = 88 := by kernel_rfl
  obtain ⟨v', h', h1, h2, h3⟩ := append_ownr (bytes := 88) O rfl hf rfl (by
    show (Nat.ble (Nat.mul (l.length + 1) 88) 140737488355328 && Nat.ble (l.length + 1) 4611686018427387904) = true
    rw [Bool.and_eq_true]
    exact ⟨Nat.ble_eq_true_of_le (show (l.length + 1) * 88 ≤ _ by omega), Nat.ble_eq_true_of_le (by omega)⟩)
  refine ⟨v', h', ?_, ?_, h3⟩
  · have : builtinA (Cg K) h .append #[33, 33] [v, .slO id 0 6 1 1 true] = appendA h 35 6 88 v (.slO id 0 6 1 1 true) := by kernel_rfl
    rw [this]; exact h1
  · have e1 : cellsL (l ++ [x]) = cellsL l ++ x.six := by rw [cellsL_app, cellsL, cellsL, List.append_nil, cells_eq]; rfl
    unfold OwnV
    rw [e1, List.length_append]
    exact h2

/-! ## Drawn regions in which a call changes a block -/
def St.cv (s : St) (id k : Nat) : AV := match s.cell id k with | some v => v | none => .dead
theorem cv_of {s : St} {h : Heap} {id k : Nat} {b : Blk} {x : AV} (he : s.h = h) (pr : h.get id = some b) (hk : nth b.cells k = some x) : x = s.cv id k := by
  subst he
  unfold St.cv St.cell
  rw [pr]
  simp only [hk]
section
variable {C : Cfg} {F : Fns} {ops : Array Oper} {j : Nat} {l : List Oper} {d : Dr} {pl : List Nat} {Q : Out → Prop}
/-- an operation that makes a block, in a drawn region -/
def putA (l : List Oper) (j : Nat) (d : Dr) (x : AV) (h' : Heap) : Dr := { s := putIn l d.s x h', made := (j, d.s.h.next) :: d.made, reads := d.reads, ms := d.ms }
theorem WE.opa {y : OR} {x : AV} {h' : Heap} (hy : y = some (x, h')) (h1 : opIn C ops l d.s = some y) (hc : isC C .a l = true) (w : WE C F ops (Nat.succ j) (dropN l 1) (putA l j d x h') pl Q) : WE C F ops j l d pl Q := by
  intro hp hm
  cases l with
  | nil => cases h1
  | cons o l =>
    have hq : cls C o.op = .a := beq_cls.1 hc
    obtain ⟨hw, he⟩ := opIn_oper (F := F) h1 hy
    obtain ⟨d2, e, q⟩ := w (fun p hp' => by have := hp p hp'; omega) ⟨hm.1, fun m hm' => by have := hm.2 m hm'; omega⟩
    refine ⟨d2, ?_, q⟩
    rw [drawOps_cons, hw]
    have hstep : drawStep C F j o d = some (.inl (putA (o :: l) j d x h')) := by
      unfold drawStep
      rw [hq]
      simp only [he]
      rfl
    simp only [hstep]
    rw [dropN_eq] at e
    exact e
def finRM (C : Cfg) (F : Fns) (ops : Array Oper) (j : Nat) (l : List Oper) (d : Dr) (id jc jm : Nat) : Bool := match drawOps C F ops (predsOf ops.toList []) j l d with
  | some (.inl d') => d'.reads.all fun r => Nat.beq r.2 id && (d'.ms.all (fun m => isPred (predsOf ops.toList []) m.1 r.1 || isPred (predsOf ops.toList []) r.1 m.1 || Nat.beq m.1 jc) && d'.made.all (fun m => Nat.beq m.1 jm || isPred (predsOf ops.toList []) m.1 r.1))
  | _ => false
def finMs2 (C : Cfg) (F : Fns) (ops : Array Oper) (j : Nat) (l : List Oper) (d : Dr) (id jc : Nat) : List (Option Blk × Option Blk) := match drawOps C F ops (predsOf ops.toList []) j l d with
  | some (.inl d') => List.rec [] (fun m _ ih => bif Nat.beq m.1 jc then (m.2.1.get id, m.2.2.get id) :: ih else ih) d'.ms
  | _ => []
def finMd (C : Cfg) (F : Fns) (ops : Array Oper) (j : Nat) (l : List Oper) (d : Dr) (jm : Nat) : List Nat := match drawOps C F ops (predsOf ops.toList []) j l d with
  | some (.inl d') => List.rec [] (fun m _ ih => bif Nat.beq m.1 jm then m.2 :: ih else ih) d'.made
  | _ => []
theorem rec_mem {α β : Type} {f : α → Nat} {g : α → β} {jc : Nat} : ∀ (l : List α) (m : α), m ∈ l → Nat.beq (f m) jc = true → g m ∈ (List.rec [] (fun m _ ih => bif Nat.beq (f m) jc then g m :: ih else ih) l : List β)
  | a :: l, m, hm, hj => by
    show g m ∈ (bif Nat.beq (f a) jc then g a :: _ else _)
    rcases List.mem_cons.1 hm with rfl | hm
    · rw [hj]; exact List.mem_cons_self ..
    · have := rec_mem (g := g) l m hm hj
      cases Nat.beq (f a) jc with
      | true => exact List.mem_cons_of_mem _ this
      | false => exact this
theorem WE.finm {id jc jm n0 : Nat} {B : Blk} {h h' : Heap} (hR : finRM C F ops j l d id jc jm = true) (hC : finMs2 C F ops j l d id jc = [(h.get id, h'.get id)]) (hM : finMd C F ops j l d jm = [n0]) (hB : beqBlk B B = true) (g1 : h.get id = some B) (g2 : h'.get id = some B) (hne : n0 ≠ id)
    (q : Q (.nrm (finD C F ops j l d))) : WE C F ops j l d pl Q := by
  intro _ _
  unfold finRM at hR
  unfold finD at q
  unfold finMs2 at hC
  unfold finMd at hM
  split at hR
  · rename_i d' hr
    rw [hr] at q hC hM
    simp only at hC hM
    refine ⟨d', hr, ?_, q⟩
    rw [List.all_eq_true] at hR ⊢
    intro r hrr
    have h2 := hR r hrr
    rw [Bool.and_eq_true, Bool.and_eq_true, List.all_eq_true, List.all_eq_true] at h2
    obtain ⟨hid, h3, h4⟩ := h2
    have hid : r.2 = id := Nat.eq_of_beq_eq_true hid
    unfold readOk
    rw [Bool.and_eq_true, List.all_eq_true, List.all_eq_true]
    refine ⟨fun m hm => ?_, fun m hm => ?_⟩
    · have h5 := h3 m hm
      simp only [Bool.or_eq_true] at h5 ⊢
      rcases h5 with h5 | h5
      · exact .inl h5
      · refine .inr ?_
        have := rec_mem (f := fun m : Nat × Heap × Heap => m.1) (g := fun m : Nat × Heap × Heap => (m.2.1.get id, m.2.2.get id)) d'.ms m hm h5
        rw [hC] at this
        have := List.mem_singleton.1 this
        unfold sameBlk
        rw [hid, show m.2.1.get id = h.get id from congrArg Prod.fst this, show m.2.2.get id = h'.get id from congrArg Prod.snd this, g1, g2]
        exact hB
    · have h5 := h4 m hm
      simp only [Bool.or_eq_true] at h5 ⊢
      rcases h5 with h5 | h5
      · refine .inl ?_
        have := rec_mem (f := fun m : Nat × Nat => m.1) (g := fun m : Nat × Nat => m.2) d'.made m hm h5
        rw [hM] at this
        have := List.mem_singleton.1 this
        rw [this, hid]
        cases hh : Nat.beq n0 id with
        | false => rfl
        | true => exact absurd (Nat.eq_of_beq_eq_true hh) hne
      · exact .inr h5
  · cases hR
end
end
end Go.Abs
namespace Go.Abs
noncomputable section
open Go Go.Proofs
variable {K : Nat}
/-! ## The program's reader -/
def cutS (s b : List UInt8) : List UInt8 := bif b.isPrefixOf s then s.drop b.length else s
def idxI (s : List UInt8) : Int := Lib.idxFunc ncNot true ⟨⟨s⟩⟩
def nE (s : List UInt8) : Nat := (s.takeWhile isNC).length
def errB (p : List UInt8) : Bool := match Lib.atoiAll p with | .ok _ => false | _ => true
def errA (p : List UInt8) : AV := bif errB p then .ifc 210 .dead else .nili
theorem atoiR_eq (p : List UInt8) : atoiR p = .tup [.int .i64 (atoiV p), errA p] := by
  unfold atoiR errA errB atoiV
  cases Lib.atoiAll p <;> rfl
theorem err_ne {p : List UInt8} (hp : Heap) : keep hp (binA (Cg K) 133 true .neq (errA p) .nili) = some (.bool (errB p), hp) := by
  unfold errA
  cases errB p with
  | true => kernel_rfl
  | false => kernel_rfl
theorem inR64_atoi (p : List UInt8) : inR64 (atoiV p) = true := by
  unfold atoiV
  split
  · rename_i v h; have := Lib.atoiAll_bounds h; exact inR64_of this.1 this.2
  · have := Lib.atoiSat_bounds p; exact inR64_of this.1 this.2
  · exact inR64_of (by simp) (by simp)
theorem nE_le (s : List UInt8) : nE s ≤ s.length := by unfold nE; exact (List.takeWhile_prefix _).length_le
theorem nE_take (s : List UInt8) : s.take (nE s) = s.takeWhile isNC := by
  unfold nE
  exact (List.prefix_iff_eq_take.1 (List.takeWhile_prefix _)).symm
theorem idx_neg {s : List UInt8} (h : decide (idxI s < 0) = true) : ((nE s : Nat) : Int) = ((lenN s : Nat) : Int) := by
  have h := of_decide_eq_true h
  unfold idxI at h
  rw [idx_nc] at h
  split at h
  · rename_i e; unfold nE; rw [e, lenN_eq]
  · omega
theorem idx_pos {s : List UInt8} (h : decide (idxI s < 0) = false) : ((nE s : Nat) : Int) = idxI s := by
  have h := of_decide_eq_false h
  unfold idxI at h ⊢
  rw [idx_nc] at h ⊢
  split at h
  · omega
  · rename_i e; rw [if_neg e]; rfl
theorem nc_to {s : List UInt8} (hp : Heap) : keep hp (opSlice (Cg K) hp 9 (.str s) none (some (.int .i64 ((nE s : Nat) : Int))) none) = some (.str (s.takeWhile isNC), hp) := by
  have := nE_le s
  rw [str_to (by omega) (by omega), Int.toNat_natCast, nE_take]
theorem nc_from {s : List UInt8} (hp : Heap) : keep hp (opSlice (Cg K) hp 9 (.str s) (some (.int .i64 ((nE s : Nat) : Int))) none none) = some (.str (s.drop (nE s)), hp) := by
  have := nE_le s
  rw [str_from (by omega) (by omega), Int.toNat_natCast]
theorem pre_to {s b : List UInt8} (h : decide (((lenN s : Nat) : Int) ≥ ((lenN b : Nat) : Int)) = true) (hp : Heap) : keep hp (opSlice (Cg K) hp 9 (.str s) none (some (.int .i64 ((lenN b : Nat) : Int))) none) = some (.str (s.take b.length), hp) := by
  have h := of_decide_eq_true h
  rw [lenN_eq, lenN_eq] at h
  rw [lenN_eq, str_to (by omega) (by omega), Int.toNat_natCast]
theorem pre_from {s b : List UInt8} (h : b.isPrefixOf s = true) (hp : Heap) : keep hp (opSlice (Cg K) hp 9 (.str s) (some (.int .i64 ((lenN b : Nat) : Int))) none none) = some (.str (s.drop b.length), hp) := by
  have h := (List.isPrefixOf_iff_prefix.1 h).length_le
  rw [lenN_eq, str_from (by omega) (by omega), Int.toNat_natCast]
theorem atoi_c {n : Nat} (hn : 1 ≤ n) {p : List UInt8} (hp : p.length ≤ 4000) (h : Heap) : (fns (Cg K) n).call 68 [.str p] h none = some (.val (.tup [.int .i64 (atoiV p), errA p]) h none) := by
  obtain ⟨m, rfl⟩ : ∃ m, n = m + 1 := ⟨n - 1, by omega⟩
  have hs : specG 68 [.str p] = some (.tup [.int .i64 (atoiV p), errA p]) := by
    show (bif Nat.ble (lenN p) 4000 then some (atoiR p) else none) = _
    rw [lenN_eq, show Nat.ble p.length 4000 = true from Nat.ble_eq_true_of_le hp, atoiR_eq]; rfl
  show (match specG 68 [.str p] with | some v => some (Res.val v h none) | none => _) = _
  rw [hs]
theorem idx87_c {n : Nat} (hn : 1 ≤ n) {s : List UInt8} (h : Heap) : (fns (Cg K) n).call 87 [.str s, .fn (.func 67) [] [], .bool true] h none = some (.val (.int .i64 (idxI s)) h none) := by
  obtain ⟨m, rfl⟩ : ∃ m, n = m + 1 := ⟨n - 1, by omega⟩
  kernel_rfl
set_option maxRecDepth 20000 in
theorem hasPrefix_c {n : Nat}  (hn : 1 ≤ n) (s b : List UInt8)  (h : Heap) : (fns (Cg K) n).call 118 [.str s, .str b] h none = some (.val (.bool (b.isPrefixOf s)) h none) := by
  obtain ⟨m, rfl⟩ : ∃ m, n = m + 1 := ⟨n - 1, by omega⟩
  refine pureq (C := Cg K) (F := fns (Cg K) m) (fn := Tryz.f118) (c := bodyOf Tryz.f118) (by kernel_rfl) (by kernel_rfl) (by kernel_rfl) (by kernel_rfl) (by kernel_rfl) (by kernel_rfl) (by kernel_rfl) ?_ h
  refine W.seq ?_
  refine W.region ?_
  refine WO.fin (by kernel_rfl) ?_
  refine W.seq ?_
  refine W.region ?_
  refine WO.adv 6 (by kernel_rfl) ?_
  refine splitB (decide (((lenN s : Nat) : Int) ≥ ((lenN b : Nat) : Int))) (fun hb1 => ?_) (fun hb1 => ?_)
  · refine WO.sub 9 hb1 (by kernel_rfl) ?_
    refine WO.sub 10 hb1 (by kernel_rfl) ?_
    refine WO.adv 3 (by kernel_rfl) ?_
    refine WO.opc (pre_to (K := K) (s := s) (b := b) hb1) (by kernel_rfl) ?_
    refine WO.fin (by kernel_rfl) ?_
    refine W.ret ?_
    exact RetQ.k (v' := .bool (beqBytes (s.take b.length) b)) (by rw [← prefix_take s b, hb1]; rfl) (by kernel_rfl) (by kernel_rfl)
  · refine WO.sub 9 hb1 (by kernel_rfl) ?_
    refine WO.sub 10 hb1 (by kernel_rfl) ?_
    refine WO.fin (by kernel_rfl) ?_
    refine W.ret ?_
    exact RetQ.k (v' := .bool false) (by rw [← prefix_take s b, hb1]; rfl) (by kernel_rfl) (by kernel_rfl)

set_option maxRecDepth 20000 in
theorem cutPrefix1_c {n : Nat}  (hn : 2 ≤ n) (s b : List UInt8)  (h : Heap) : (fns (Cg K) n).call 91 [.str s, .str b] h none = some (.val (.tup [.str (cutS s b), .bool (b.isPrefixOf s)]) h none) := by
  obtain ⟨m, rfl⟩ : ∃ m, n = m + 1 := ⟨n - 1, by omega⟩
  refine pureq (C := Cg K) (F := fns (Cg K) m) (fn := Tryz.f91) (c := bodyOf Tryz.f91) (by kernel_rfl) (by kernel_rfl) (by kernel_rfl) (by kernel_rfl) (by kernel_rfl) (by kernel_rfl) (by kernel_rfl) ?_ h
  refine W.seq ?_
  refine W.region ?_
  refine WO.fin (by kernel_rfl) ?_
  refine W.seq ?_
  refine W.seq ?_
  refine W.region ?_
  refine WO.adv 2 (by kernel_rfl) ?_
  refine WO.callp (by kernel_rfl) (hasPrefix_c (n := m) (by omega) s b _) ?_
  refine WO.fin (by kernel_rfl) ?_
  refine W.cond (!(b.isPrefixOf s)) (by kernel_rfl) (fun hb1 => ?_) (fun hb1 => ?_)
  · refine W.sub 9 hb1 (by kernel_rfl) ?_
    refine W.seq ?_
    refine W.region ?_
    refine WO.fin (by kernel_rfl) ?_
    refine W.ret ?_
    exact RetQ.k (v' := .tup [.str s, .bool false]) (by unfold cutS; rw [show b.isPrefixOf s = false by simpa using hb1]; rfl) (by kernel_rfl) (by kernel_rfl)
  · refine W.sub 9 hb1 (by kernel_rfl) ?_
    refine W.skip ?_
    refine W.seq ?_
    refine W.region ?_
    refine WO.adv 3 (by kernel_rfl) ?_
    refine WO.opc (pre_from (K := K) (s := s) (b := b) (by simpa using hb1)) (by kernel_rfl) ?_
    refine WO.fin (by kernel_rfl) ?_
    refine W.ret ?_
    exact RetQ.k (v' := .tup [.str (s.drop b.length), .bool true]) (by unfold cutS; rw [show b.isPrefixOf s = true by simpa using hb1]; rfl) (by kernel_rfl) (by kernel_rfl)

set_option maxRecDepth 20000 in
theorem cutPrefix_c {n : Nat}  (hn : 3 ≤ n) (s b : List UInt8)  (h : Heap) : (fns (Cg K) n).call 70 [.str s, .str b] h none = some (.val (.tup [.str (cutS s b), .bool (b.isPrefixOf s)]) h none) := by
  obtain ⟨m, rfl⟩ : ∃ m, n = m + 1 := ⟨n - 1, by omega⟩
  refine pureq (C := Cg K) (F := fns (Cg K) m) (fn := Tryz.f70) (c := bodyOf Tryz.f70) (by kernel_rfl) (by kernel_rfl) (by kernel_rfl) (by kernel_rfl) (by kernel_rfl) (by kernel_rfl) (by kernel_rfl) ?_ h
  refine W.seq ?_
  refine W.region ?_
  refine WO.fin (by kernel_rfl) ?_
  refine W.seq ?_
  refine W.region ?_
  refine WO.adv 2 (by kernel_rfl) ?_
  refine WO.callp (by kernel_rfl) (cutPrefix1_c (n := m) (by omega) s b _) ?_
  refine WO.fin (by kernel_rfl) ?_
  refine W.ret ?_
  exact RetQ.k (v' := .tup [.str (cutS s b), .bool (b.isPrefixOf s)]) (by rfl) (by kernel_rfl) (by kernel_rfl)

set_option maxRecDepth 20000 in
theorem sIndexFunc_c {n : Nat}  (hn : 2 ≤ n) (s : List UInt8)  {h : Heap}  : (fns (Cg K) n).call 66 [.str s, .fn (.func 67) [] []] h none = some (.val (.int .i64 (idxI s)) h none) := by
  obtain ⟨m, rfl⟩ : ∃ m, n = m + 1 := ⟨n - 1, by omega⟩
  refine plainq (C := Cg K) (F := fns (Cg K) m) (fn := Tryz.f66) (c := bodyOf Tryz.f66) (by kernel_rfl) (by kernel_rfl) (by kernel_rfl) (by kernel_rfl) (by kernel_rfl) (by kernel_rfl) ?_
  refine W.seq ?_
  refine W.region ?_
  refine WO.fin (by kernel_rfl) ?_
  refine W.seq ?_
  refine W.region ?_
  refine WO.adv 2 (by kernel_rfl) ?_
  refine WO.callp (by kernel_rfl) (idx87_c (n := m) (by omega) (s := s) _) ?_
  refine WO.fin (by kernel_rfl) ?_
  refine W.ret ?_
  exact RetN.k (v' := .int .i64 (idxI s)) (h' := h) (by rfl) (by rfl) (by kernel_rfl) (by kernel_rfl) (by kernel_rfl)

theorem sign_1 {b : List UInt8} {st : RS} : (cSign b st).1 = cutS st.1 b := by
  unfold cSign cutS
  cases b.isPrefixOf st.1 <;> rfl
theorem sign_2 {b : List UInt8} {st : RS} : (cSign b st).2 = (st.2 || !(b.isPrefixOf st.1)) := by
  unfold cSign
  cases b.isPrefixOf st.1 <;> simp
set_option maxRecDepth 20000 in
theorem sign_c {n : Nat}  (hn : 4 ≤ n) (st : RS) (b : List UInt8)  {i g ver : Nat} {h : Heap} (hg : h.get i = some (bk g 83 true ver [.str st.1, .bool st.2])) :
    (fns (Cg K) n).call 46 ((.ptrO i 0) :: (.str b) :: []) h none = some (.val (.tup []) (h.set i (bk g 83 true (Nat.succ ver) [.str (cSign b st).1, .bool (cSign b st).2])) none) := by
  obtain ⟨m, rfl⟩ : ∃ m, n = m + 1 := ⟨n - 1, by omega⟩
  refine ownq (y := (.ptrO 0 0)) (C := Cg K) (F := fns (Cg K) m) (fn := Tryz.f46) (c := bodyOf Tryz.f46) (by kernel_rfl) (by kernel_rfl) (by kernel_rfl) hg (by kernel_rfl) (by kernel_rfl) (by kernel_rfl) (by kernel_rfl) (by kernel_rfl) (by kernel_rfl) (by kernel_rfl) ?_
  refine W.seq ?_
  refine W.region ?_
  refine WO.adv 5 (by kernel_rfl) ?_
  refine WO.callp (by kernel_rfl) (cutPrefix_c (n := m) (by omega) st.1 b _) ?_
  refine WO.fin (by kernel_rfl) ?_
  refine W.region ?_
  refine WO.adv 8 (by kernel_rfl) ?_
  refine splitB st.2 (fun hb1 => ?_) (fun hb1 => ?_)
  · refine WO.sub 21 hb1 (by kernel_rfl) ?_
    refine WO.sub 22 hb1 (by kernel_rfl) ?_
    refine WO.fin (by kernel_rfl) ?_
    exact RetO.kn (v' := .tup []) (cs' := [.str (cutS st.1 b), .bool true]) (ver := 2) (by rfl) (by rw [sign_1, sign_2, hb1]; rfl) (by kernel_rfl) (by kernel_rfl) (by kernel_rfl)
  · refine WO.sub 21 hb1 (by kernel_rfl) ?_
    refine WO.sub 22 hb1 (by kernel_rfl) ?_
    refine WO.fin (by kernel_rfl) ?_
    exact RetO.kn (v' := .tup []) (cs' := [.str (cutS st.1 b), .bool (!(b.isPrefixOf st.1))]) (ver := 2) (by rfl) (by rw [sign_1, sign_2, hb1]; rfl) (by kernel_rfl) (by kernel_rfl) (by kernel_rfl)

end
end Go.Abs
namespace Go.Abs
noncomputable section
open Go Go.Proofs
variable {K : Nat}
theorem sg_le {b : List UInt8} {x : RS} (h : x.1.length ≤ 4000) : (cSign b x).1.length ≤ 4000 := Nat.le_trans (cSign_len b x) h
theorem num_is (p : List UInt8) : (!(numOf p).isSome) = (errB p || !(beqBytes (Lib.itoa (atoiV p)) p)) := by
  unfold numOf errB atoiV
  cases Lib.atoiAll p
  case ok v =>
    show (!(if Lib.itoa v = p then some v else none).isSome) = (false || !(beqBytes (Lib.itoa v) p))
    by_cases h : Lib.itoa v = p
    · rw [if_pos h, h, beqBytes_self]; rfl
    · rw [if_neg h]
      cases hb : beqBytes (Lib.itoa v) p with
      | false => rfl
      | true => rw [beqBytes_eq] at hb; exact absurd (eq_of_beq hb) h
  all_goals rfl
theorem cNum_w {b : List UInt8} {st : RS} {w : Bool} (h : (st.2 || (errB (st.1.takeWhile isNC) || !(beqBytes (Lib.itoa (atoiV (st.1.takeWhile isNC))) (st.1.takeWhile isNC)))) = w) : (cNum b st).2 = cSign b (st.1.drop (nE st.1), w) := by
  subst h
  rw [← num_is]; rfl
theorem cText_bad {st : RS} (h : ((cNum [58] st).2.2 || (decide ((cNum [58] st).1 < 0) || decide ((cNum [58] st).1 > ((lenN (cNum [58] st).2.1 : Nat) : Int)))) = true) : cText st = ([], ((cNum [58] st).2.1, true)) := by
  rw [lenN_eq] at h
  unfold cText
  rw [h]; rfl
theorem cText_ok {st : RS} (h : ((cNum [58] st).2.2 || (decide ((cNum [58] st).1 < 0) || decide ((cNum [58] st).1 > ((lenN (cNum [58] st).2.1 : Nat) : Int)))) = false) : cText st = ((cNum [58] st).2.1.take (cNum [58] st).1.toNat, ((cNum [58] st).2.1.drop (cNum [58] st).1.toNat, (cNum [58] st).2.2)) := by
  rw [lenN_eq] at h
  unfold cText
  rw [h]; rfl
theorem tw_len {s : List UInt8} (h : s.length ≤ 4000) : (s.takeWhile isNC).length ≤ 4000 := Nat.le_trans (List.takeWhile_prefix _).length_le h
theorem cut_at {n : Int} {s : List UInt8} (h1 : decide (n < 0) = false) (h2 : decide (n > ((lenN s : Nat) : Int)) = false) : 0 ≤ n ∧ n ≤ ((s.length : Nat) : Int) := by
  have h1 := of_decide_eq_false h1; have h2 := of_decide_eq_false h2
  rw [lenN_eq] at h2
  exact ⟨by omega, by omega⟩
set_option maxRecDepth 20000 in
theorem rdNumber_c {n : Nat}  (hn : 6 ≤ n) (st : RS) (b : List UInt8) (hl : st.1.length ≤ 4000) {i g ver : Nat} {h : Heap} (hg : h.get i = some (bk g 83 true ver [.str st.1, .bool st.2])) :
    (fns (Cg K) n).call 44 ((.ptrO i 0) :: (.str b) :: []) h none = some (.val (.int .i64 (cNum b st).1) (h.set i (bk g 83 true (Nat.succ ver) [.str (cNum b st).2.1, .bool (cNum b st).2.2])) none) := by
  obtain ⟨m, rfl⟩ : ∃ m, n = m + 1 := ⟨n - 1, by omega⟩
  refine ownq (y := (.ptrO 0 0)) (C := Cg K) (F := fns (Cg K) m) (fn := Tryz.f44) (c := bodyOf Tryz.f44) (by kernel_rfl) (by kernel_rfl) (by kernel_rfl) hg (by kernel_rfl) (by kernel_rfl) (by kernel_rfl) (by kernel_rfl) (by kernel_rfl) (by kernel_rfl) (by kernel_rfl) ?_
  refine W.seq ?_
  refine W.region ?_
  refine WO.fin (by kernel_rfl) ?_
  refine W.seq ?_
  refine W.region ?_
  refine WO.adv 4 (by kernel_rfl) ?_
  refine WO.callp (by kernel_rfl) (sIndexFunc_c (n := m) (by omega) st.1) ?_
  refine WO.fin (by kernel_rfl) ?_
  refine W.seqj (fun t => (S 65 ((some (.ptrO 0 0)) :: (some (.str b)) :: none :: none :: (some (.int .i64 0)) :: (some (.int .i64 ((nE st.1 : Nat) : Int))) :: none :: none :: (some (.ptrO 0 0)) :: (some (.ptrO 0 0)) :: (some (.ptrO 0 0)) :: (some (.str st.1)) :: (some (.int .i64 (idxI st.1))) :: (t.g 13) :: (t.g 14) :: (t.g 15) :: (t.g 16) :: (t.g 17) :: (t.g 18) :: (t.g 19) :: none :: none :: none :: none :: none :: none :: none :: none :: none :: none :: none :: none :: none :: none :: none :: none :: none :: none :: none :: none :: none :: none :: none :: none :: none :: none :: none :: none :: none :: none :: none :: none :: none :: none :: none :: none :: none :: none :: none :: none :: none :: none :: none :: none :: none :: []) (hpL [bk 0 83 true 0 [.str st.1, .bool st.2]]))) ?_ (fun t1 => ?_)
  · refine W.seq ?_
    refine W.region ?_
    refine WO.fin (by kernel_rfl) ?_
    refine W.cond (decide ((idxI st.1) < 0)) (by kernel_rfl) (fun hb2 => ?_) (fun hb2 => ?_)
    · refine W.sub 14 hb2 (by kernel_rfl) ?_
      refine W.region ?_
      refine WO.fin (by kernel_rfl) ?_
      refine Told.put 5 (v := .int .i64 ((lenN st.1 : Nat) : Int)) (v' := .int .i64 ((nE st.1 : Nat) : Int)) (congrArg _ (Eq.symm (by exact idx_neg hb2))) (by kernel_rfl) ?_
      exact Told.k (by kernel_rfl)
    · refine W.sub 14 hb2 (by kernel_rfl) ?_
      refine W.skip ?_
      refine Told.put 5 (v := .int .i64 (idxI st.1)) (v' := .int .i64 ((nE st.1 : Nat) : Int)) (congrArg _ (Eq.symm (by exact idx_pos hb2))) (by kernel_rfl) ?_
      exact Told.k (by kernel_rfl)
  · refine W.seq ?_
    refine W.region ?_
    refine WO.adv 5 (by kernel_rfl) ?_
    refine WO.opc (nc_to (K := K) (s := st.1)) (by kernel_rfl) ?_
    refine WO.callp (by kernel_rfl) (atoi_c (n := m) (by omega) (p := (st.1.takeWhile isNC)) (tw_len hl) _) ?_
    refine WO.fin (by kernel_rfl) ?_
    refine W.seq ?_
    refine W.drawn2 (by kernel_rfl) ?_
    refine WE.adv (j' := 6) 6 (by kernel_rfl) (by kernel_rfl) ?_
    refine splitB st.2 (fun hb3 => ?_) (fun hb3 => ?_)
    · refine WE.sub 34 hb3 (by kernel_rfl) ?_
      refine WE.sub 35 hb3 (by kernel_rfl) ?_
      refine WE.fin (by kernel_rfl) ?_
      refine W.seq ?_
      refine W.region ?_
      refine WO.adv 6 (by kernel_rfl) ?_
      refine WO.opc (nc_from (K := K) (s := st.1)) (by kernel_rfl) ?_
      refine WO.fin (by kernel_rfl) ?_
      refine W.seq ?_
      refine W.region ?_
      refine WO.adv 2 (by kernel_rfl) ?_
      refine WO.callh (by kernel_rfl) rfl (sign_c (n := m) (by omega) (st := ((st.1.drop (nE st.1)), true)) b (i := 0) (g := 0) (ver := 2)  (by kernel_rfl)) ?_
      refine WO.nil ?_
      refine W.seq ?_
      refine W.region ?_
      refine WO.fin (by kernel_rfl) ?_
      refine W.ret ?_
      exact RetO.k (v' := .int .i64 (atoiV (st.1.takeWhile isNC))) (cs' := [.str ((cSign b ((st.1.drop (nE st.1)), true)).1), .bool ((cSign b ((st.1.drop (nE st.1)), true)).2)]) (ver := (Nat.succ 2)) (by rfl) (by rw [cNum_w (st := st) (b := b) (w := true) (by simp [hb3])]) (by kernel_rfl) (by kernel_rfl) (by kernel_rfl)
    · refine WE.sub 34 hb3 (by kernel_rfl) ?_
      refine WE.sub 35 hb3 (by kernel_rfl) ?_
      refine WE.adv (j' := 7) 1 (by kernel_rfl) (by kernel_rfl) ?_
      refine WE.opq (err_ne (K := K) (p := (st.1.takeWhile isNC))) (by kernel_rfl) (by kernel_rfl) ?_
      refine WE.adv (j' := 10) 2 (by kernel_rfl) (by kernel_rfl) ?_
      refine splitB (errB (st.1.takeWhile isNC)) (fun hb4 => ?_) (fun hb4 => ?_)
      · refine WE.sub 37 hb4 (by kernel_rfl) ?_
        refine WE.sub 38 hb4 (by kernel_rfl) ?_
        refine WE.sub 39 hb4 (by kernel_rfl) ?_
        refine WE.fin (by kernel_rfl) ?_
        refine W.seq ?_
        refine W.region ?_
        refine WO.adv 6 (by kernel_rfl) ?_
        refine WO.opc (nc_from (K := K) (s := st.1)) (by kernel_rfl) ?_
        refine WO.fin (by kernel_rfl) ?_
        refine W.seq ?_
        refine W.region ?_
        refine WO.adv 2 (by kernel_rfl) ?_
        refine WO.callh (by kernel_rfl) rfl (sign_c (n := m) (by omega) (st := ((st.1.drop (nE st.1)), true)) b (i := 0) (g := 0) (ver := 2)  (by kernel_rfl)) ?_
        refine WO.nil ?_
        refine W.seq ?_
        refine W.region ?_
        refine WO.fin (by kernel_rfl) ?_
        refine W.ret ?_
        exact RetO.k (v' := .int .i64 (atoiV (st.1.takeWhile isNC))) (cs' := [.str ((cSign b ((st.1.drop (nE st.1)), true)).1), .bool ((cSign b ((st.1.drop (nE st.1)), true)).2)]) (ver := (Nat.succ 2)) (by rfl) (by rw [cNum_w (st := st) (b := b) (w := true) (by simp [hb3, hb4])]) (by kernel_rfl) (by kernel_rfl) (by kernel_rfl)
      · refine WE.sub 37 hb4 (by kernel_rfl) ?_
        refine WE.sub 38 hb4 (by kernel_rfl) ?_
        refine WE.sub 39 hb4 (by kernel_rfl) ?_
        refine WE.adv (j' := 11) 1 (by kernel_rfl) (by kernel_rfl) ?_
        refine WE.callp (by kernel_rfl) (by kernel_rfl) (itoa_c (n := m) (by omega) (x := (atoiV (st.1.takeWhile isNC))) (inR64_atoi _) _) ?_
        refine WE.adv (j' := 17) 5 (by kernel_rfl) (by kernel_rfl) ?_
        refine WE.opq (nc_to (K := K) (s := st.1)) (by kernel_rfl) (by kernel_rfl) ?_
        refine WE.fin (by kernel_rfl) ?_
        refine W.seq ?_
        refine W.region ?_
        refine WO.adv 6 (by kernel_rfl) ?_
        refine WO.opc (nc_from (K := K) (s := st.1)) (by kernel_rfl) ?_
        refine WO.fin (by kernel_rfl) ?_
        refine W.seq ?_
        refine W.region ?_
        refine WO.adv 2 (by kernel_rfl) ?_
        refine WO.callh (by kernel_rfl) rfl (sign_c (n := m) (by omega) (st := ((st.1.drop (nE st.1)), (!(beqBytes (Lib.itoa (atoiV (st.1.takeWhile isNC))) (st.1.takeWhile isNC))))) b (i := 0) (g := 0) (ver := 2)  (by kernel_rfl)) ?_
        refine WO.nil ?_
        refine W.seq ?_
        refine W.region ?_
        refine WO.fin (by kernel_rfl) ?_
        refine W.ret ?_
        exact RetO.k (v' := .int .i64 (atoiV (st.1.takeWhile isNC))) (cs' := [.str ((cSign b ((st.1.drop (nE st.1)), (!(beqBytes (Lib.itoa (atoiV (st.1.takeWhile isNC))) (st.1.takeWhile isNC))))).1), .bool ((cSign b ((st.1.drop (nE st.1)), (!(beqBytes (Lib.itoa (atoiV (st.1.takeWhile isNC))) (st.1.takeWhile isNC))))).2)]) (ver := (Nat.succ 2)) (by rfl) (by rw [cNum_w (st := st) (b := b) (w := (!(beqBytes (Lib.itoa (atoiV (st.1.takeWhile isNC))) (st.1.takeWhile isNC)))) (by simp [hb3, hb4])]) (by kernel_rfl) (by kernel_rfl) (by kernel_rfl)

set_option maxRecDepth 20000 in
theorem rdText_c {n : Nat}  (hn : 7 ≤ n) (st : RS) (hl : st.1.length ≤ 4000) {i g ver : Nat} {h : Heap} (hg : h.get i = some (bk g 83 true ver [.str st.1, .bool st.2])) :
    (fns (Cg K) n).call 45 ((.ptrO i 0) :: []) h none = some (.val (.str (cText st).1) (h.set i (bk g 83 true (Nat.succ ver) [.str (cText st).2.1, .bool (cText st).2.2])) none) := by
  obtain ⟨m, rfl⟩ : ∃ m, n = m + 1 := ⟨n - 1, by omega⟩
  refine ownq (y := (.ptrO 0 0)) (C := Cg K) (F := fns (Cg K) m) (fn := Tryz.f45) (c := bodyOf Tryz.f45) (by kernel_rfl) (by kernel_rfl) (by kernel_rfl) hg (by kernel_rfl) (by kernel_rfl) (by kernel_rfl) (by kernel_rfl) (by kernel_rfl) (by kernel_rfl) (by kernel_rfl) ?_
  refine W.seq ?_
  refine W.region ?_
  refine WO.fin (by kernel_rfl) ?_
  refine W.seq ?_
  refine W.region ?_
  refine WO.adv 1 (by kernel_rfl) ?_
  refine WO.callh (by kernel_rfl) rfl (rdNumber_c (n := m) (by omega) (st := st) [58] hl (i := 0) (g := 0) (ver := 0)  (by kernel_rfl)) ?_
  refine WO.fin (by kernel_rfl) ?_
  refine W.seq ?_
  refine W.seq ?_
  refine W.region ?_
  refine WO.adv 5 (by kernel_rfl) ?_
  refine splitB ((cNum [58] st).2.2) (fun hb1 => ?_) (fun hb1 => ?_)
  · refine WO.sub 10 hb1 (by kernel_rfl) ?_
    refine WO.sub 11 hb1 (by kernel_rfl) ?_
    refine WO.fin (by kernel_rfl) ?_
    refine W.cond true (by kernel_rfl) (fun _ => ?_) (fun h => by cases h)
    refine W.seq ?_
    refine W.region ?_
    refine WO.fin (by kernel_rfl) ?_
    refine W.seq ?_
    refine W.region ?_
    refine WO.fin (by kernel_rfl) ?_
    refine W.ret ?_
    exact RetO.k (v' := .str []) (cs' := [.str ((cNum [58] st).2.1), .bool true]) (ver := (Nat.succ (Nat.succ 0))) (by rw [cText_bad (st := st) (by simp [hb1])]) (by rw [cText_bad (st := st) (by simp [hb1])]) (by kernel_rfl) (by kernel_rfl) (by kernel_rfl)
  · refine WO.sub 10 hb1 (by kernel_rfl) ?_
    refine WO.sub 11 hb1 (by kernel_rfl) ?_
    refine WO.adv 4 (by kernel_rfl) ?_
    refine splitB (decide ((cNum [58] st).1 < 0)) (fun hb2 => ?_) (fun hb2 => ?_)
    · refine WO.sub 13 hb2 (by kernel_rfl) ?_
      refine WO.sub 14 hb2 (by kernel_rfl) ?_
      refine WO.sub 15 hb2 (by kernel_rfl) ?_
      refine WO.fin (by kernel_rfl) ?_
      refine W.cond true (by kernel_rfl) (fun _ => ?_) (fun h => by cases h)
      refine W.seq ?_
      refine W.region ?_
      refine WO.fin (by kernel_rfl) ?_
      refine W.seq ?_
      refine W.region ?_
      refine WO.fin (by kernel_rfl) ?_
      refine W.ret ?_
      exact RetO.k (v' := .str []) (cs' := [.str ((cNum [58] st).2.1), .bool true]) (ver := (Nat.succ (Nat.succ 0))) (by rw [cText_bad (st := st) (by simp [hb1, hb2])]) (by rw [cText_bad (st := st) (by simp [hb1, hb2])]) (by kernel_rfl) (by kernel_rfl) (by kernel_rfl)
    · refine WO.sub 13 hb2 (by kernel_rfl) ?_
      refine WO.sub 14 hb2 (by kernel_rfl) ?_
      refine WO.sub 15 hb2 (by kernel_rfl) ?_
      refine WO.fin (by kernel_rfl) ?_
      refine W.cond (decide ((cNum [58] st).1 > ((lenN ((cNum [58] st).2.1) : Nat) : Int))) (by kernel_rfl) (fun hb3 => ?_) (fun hb3 => ?_)
      · refine W.sub 22 hb3 (by kernel_rfl) ?_
        refine W.sub 23 hb3 (by kernel_rfl) ?_
        refine W.seq ?_
        refine W.region ?_
        refine WO.fin (by kernel_rfl) ?_
        refine W.seq ?_
        refine W.region ?_
        refine WO.fin (by kernel_rfl) ?_
        refine W.ret ?_
        exact RetO.k (v' := .str []) (cs' := [.str ((cNum [58] st).2.1), .bool true]) (ver := (Nat.succ (Nat.succ 0))) (by rw [cText_bad (st := st) (by simp [hb1, hb2, hb3])]) (by rw [cText_bad (st := st) (by simp [hb1, hb2, hb3])]) (by kernel_rfl) (by kernel_rfl) (by kernel_rfl)
      · refine W.sub 22 hb3 (by kernel_rfl) ?_
        refine W.sub 23 hb3 (by kernel_rfl) ?_
        refine W.skip ?_
        refine W.seq ?_
        refine W.region ?_
        refine WO.adv 5 (by kernel_rfl) ?_
        refine WO.opc (str_to (K := K) (s := (cNum [58] st).2.1) (cut_at hb2 hb3).1 (cut_at hb2 hb3).2) (by kernel_rfl) ?_
        refine WO.fin (by kernel_rfl) ?_
        refine W.seq ?_
        refine W.region ?_
        refine WO.adv 6 (by kernel_rfl) ?_
        refine WO.opc (str_from (K := K) (s := (cNum [58] st).2.1) (cut_at hb2 hb3).1 (cut_at hb2 hb3).2) (by kernel_rfl) ?_
        refine WO.fin (by kernel_rfl) ?_
        refine W.seq ?_
        refine W.region ?_
        refine WO.fin (by kernel_rfl) ?_
        refine W.ret ?_
        exact RetO.k (v' := .str ((cNum [58] st).2.1.take (cNum [58] st).1.toNat)) (cs' := [.str ((cNum [58] st).2.1.drop (cNum [58] st).1.toNat), .bool ((cNum [58] st).2.2)]) (ver := (Nat.succ (Nat.succ 0))) (by rw [cText_ok (st := st) (by simp [hb1, hb2, hb3])]) (by rw [cText_ok (st := st) (by simp [hb1, hb2, hb3])]) (by kernel_rfl) (by kernel_rfl) (by kernel_rfl)

end
end Go.Abs
namespace Go.Abs
noncomputable section
open Go Go.Proofs
variable {K : Nat}
/-! ## What a function over one block hands back, memory told by facts -/
section
variable {C : Cfg} {F : Fns} {fn : Func} {f : FuncId} {c : Code} {v : AV} {cs cs' : List AV} {el ver : Nat} {wh : Bool} {s : St}
theorem RetF.kh {vs : List AV} {h' : Heap} (he : s.h = h') (hc : cs = cs') (hd : (s.ds, s.pn) = ([], none)) (hr : resultsA C h' s.tm fn.results.toList = some vs) (hz : h'.get 0 = some (bk 0 el wh ver cs')) (hf : freezeA (h'.set 0 (holeB (bk 0 el wh ver cs'))) deep (res1 vs) = some v) : RetF C F fn v el wh cs (.ret s) := by
  subst he; subst hc
  exact ⟨_, ver, _, leave_ret fn (congrArg Prod.fst hd) (congrArg Prod.snd hd) hr, hz, hf⟩
theorem keep_inv {h : Heap} {x : Option AV} {v : AV} (e : keep h x = some (v, h)) : x = some v := by
  cases x with
  | none => cases e
  | some y => injection e with e; injection e with e1 e2; rw [e1]
theorem res_cell {h : Heap} {tm : T AV} {a t : Nat} {p v : AV} (h1 : tm.get a = some p) (h2 : keep h (opLoad C h t p) = some (v, h)) : resultsA C h tm [.cell a t] = some [v] := by
  unfold resultsA
  simp only [h1, keep_inv h2]
  rfl
end
theorem OwnT.at {s : St} {h : Heap} {x : AV} {b : Blk} {l l' : List (List UInt8)} {id k lo : Nat} (he : s.h = h) (hg : h.get id = some b) (hk : nth b.cells k = some x) (hl : l = l') (O : OwnT h x l lo h.next) : OwnT s.h (s.cv id k) l' lo s.h.next := by
  rw [← cv_of he hg hk]; subst he; subst hl; exact O
theorem OwnV.at {s : St} {h : Heap} {x : AV} {b : Blk} {l l' : List Val} {id k lo : Nat} (he : s.h = h) (hg : h.get id = some b) (hk : nth b.cells k = some x) (hl : l = l') (O : OwnV h x l lo h.next) : OwnV s.h (s.cv id k) l' lo s.h.next := by
  rw [← cv_of he hg hk]; subst he; subst hl; exact O
theorem OwnT.in {s : St} {h : Heap} {x : AV} {l : List (List UInt8)} {lo bd : Nat} (he : s.h = h) (O : OwnT h x l lo bd) : OwnT s.h x l lo bd := by subst he; exact O
theorem vblk_refl {g ver : Nat} {a b c : Int} {s : List UInt8} {x y : AV} (hx : beqAV 64 x x = true) (hy : beqAV 64 y y = true) : beqBlk (bk g 35 true ver [.int .i64 a, .int .i64 b, .int .i64 c, .str s, x, y]) (bk g 35 true ver [.int .i64 a, .int .i64 b, .int .i64 c, .str s, x, y]) = true := by
  have h : beqL (beqAV 64) [.int .i64 a, .int .i64 b, .int .i64 c, .str s, x, y] [.int .i64 a, .int .i64 b, .int .i64 c, .str s, x, y] = true := by
    refine beqL_refl fun z hz => ?_
    simp only [List.mem_cons, List.not_mem_nil, or_false] at hz
    rcases hz with rfl | rfl | rfl | rfl | rfl | rfl
    · exact beq_int ..
    · exact beq_int ..
    · exact beq_int ..
    · exact beq_str ..
    · exact hx
    · exact hy
  unfold beqBlk
  show (true && true && (Nat.beq g g && (Nat.beq 0 0 && (false == false && (false == false && (Nat.beq ver ver && (Nat.beq 35 35 && (true == true && beqL (beqAV 64) [.int .i64 a, .int .i64 b, .int .i64 c, .str s, x, y] [.int .i64 a, .int .i64 b, .int .i64 c, .str s, x, y])))))))) = true
  rw [h, show Nat.beq g g = true from Nat.beq_refl g, show Nat.beq ver ver = true from Nat.beq_refl ver]; rfl
theorem fr_six {h : Heap} {xn xi : AV} {a b c : Int} {s : List UInt8} {names : List (List UInt8)} {items : List Val} {lo bd lo' bd' k : Nat} (ON : OwnT h xn names lo bd) (OV : OwnV h xi items lo' bd') :
    freezeA h (k + 4) (.agg [.int .i64 a, .int .i64 b, .int .i64 c, .str s, xn, xi]) = some (.agg (Val.mk a b c s true names true items).six) := by
  rw [freezeA_succ]
  have h1 : freezeA h (k + 3) xn = some (textsA true names) := OwnT.freeze (k := k + 1) ON
  have h2 : freezeA h (k + 3) xi = some (sliceA true (cellsL items) items.length) := OwnV.freeze (k := k + 1) OV
  simp only [freezeL_cons, h1, h2]
  rfl

/-! ## Rounds of the program's reader -/
section
variable {α : Type} {B : RS → α × RS}
def itL (B : RS → α × RS) : Nat → List α × RS → List α × RS
  | 0, r => r
  | i + 1, r => ((itL B i r).1 ++ [(B (itL B i r).2).1], (B (itL B i r).2).2)
theorem itL_succ (i : Nat) (r : List α × RS) : itL B (i + 1) r = ((itL B i r).1 ++ [(B (itL B i r).2).1], (B (itL B i r).2).2) := by rw [itL]
theorem it_cnt (r : List α × RS) : ∀ i, (itL B i r).1.length = r.1.length + i
  | 0 => rfl
  | i + 1 => by rw [itL_succ, List.length_append, it_cnt r i]; simp [Nat.add_assoc]
theorem it_le (hl : ∀ a, (B a).2.1.length ≤ a.1.length) (r : List α × RS) : ∀ i, (itL B i r).2.1.length ≤ r.2.1.length
  | 0 => Nat.le_refl _
  | i + 1 => by rw [itL_succ]; exact Nat.le_trans (hl _) (it_le hl r i)
theorem it_len (hp : ∀ a, (B a).2.2 = false → (B a).2.1.length < a.1.length) (r : List α × RS) : ∀ i, (∀ j, j < i → (itL B j r).2.2 = false) → (itL B i r).2.2 = false → i + (itL B i r).2.1.length ≤ r.2.1.length
  | 0, _, _ => by show 0 + r.2.1.length ≤ _; omega
  | i + 1, hj, h => by
    have h1 := it_len hp r i (fun j h => hj j (by omega)) (hj i (by omega))
    rw [itL_succ] at h ⊢
    have := hp _ h
    show i + 1 + (B (itL B i r).2).2.1.length ≤ _
    omega
theorem it_loop {n : Int} (r : List α × RS) : ∀ (i f : Nat), (∀ j : Nat, j < i → ((j : Nat) : Int) < n ∧ (itL B j r).2.2 = false) → i ≤ f → cLoop B n f 0 r = cLoop B n (f - i) ((i : Nat) : Int) (itL B i r)
  | 0, f, _, _ => rfl
  | i + 1, f, h, hf => by
    rw [it_loop r i f (fun j hj => h j (by omega)) (by omega)]
    obtain ⟨g, hg⟩ : ∃ g, f - i = g + 1 := ⟨f - i - 1, by omega⟩
    have hi := h i (by omega)
    rw [hg, cLoop_step g _ hi.1 hi.2, itL_succ, show f - (i + 1) = g by omega]
    rfl
/-- where the rounds end -/
theorem it_exit {n : Int} {r : List α × RS} {i : Nat} (hp : ∀ a, (B a).2.2 = false → (B a).2.1.length < a.1.length) (h : ∀ j : Nat, j < i → ((j : Nat) : Int) < n ∧ (itL B j r).2.2 = false) (he : n ≤ ((i : Nat) : Int) ∨ (itL B i r).2.2 = true) : itL B i r = cLoop B n (r.2.1.length + 1) 0 r := by
  have hi : i ≤ r.2.1.length + 1 := by
    cases i with
    | zero => omega
    | succ i => have := it_len hp r i (fun j hj => (h j (by omega)).2) (h i (by omega)).2; omega
  rw [it_loop r i _ h hi]
  rcases he with he | he
  · rw [cLoop_done _ _ he]
  · rw [cLoop_wrong _ _ _ he]
theorem it_lt {n : Int} {r : List α × RS} {i : Nat} (hp : ∀ a, (B a).2.2 = false → (B a).2.1.length < a.1.length) (h : ∀ j : Nat, j < i → ((j : Nat) : Int) < n ∧ (itL B j r).2.2 = false) (hw : (itL B i r).2.2 = false) : i < r.2.1.length + 1 := by
  have := it_len hp r i (fun j hj => (h j hj).2) hw; omega
theorem it_start {n : Int} {r : List α × RS} {i : Nat} (h : ∀ j : Nat, j < i → ((j : Nat) : Int) < n ∧ (itL B j r).2.2 = false) (hw : (itL B i r).2.2 = false) : r.2.2 = false := by
  cases i with
  | zero => exact hw
  | succ i => exact (h 0 (by omega)).2
end
theorem name_go (a : RS) (h : (cName a).2.2 = false) : (cName a).2.1.length < a.1.length := name_prog h
theorem val_go (d : Nat) (a : RS) (h : (cVal d a).2.2 = false) : (cVal d a).2.1.length < a.1.length := cVal_prog h
section
variable {st : RS}
theorem cF_eq {i : Nat} (h : ∀ j : Nat, j < i → ((j : Nat) : Int) < (cE st).1 ∧ (itL cName j ([], (cE st).2)).2.2 = false) (he : (cE st).1 ≤ ((i : Nat) : Int) ∨ (itL cName i ([], (cE st).2)).2.2 = true) : itL cName i ([], (cE st).2) = cF st := by unfold cF; exact it_exit (r := ([], (cE st).2)) name_go h he
theorem cH_eq {d i : Nat} (h : ∀ j : Nat, j < i → ((j : Nat) : Int) < (cG st).1 ∧ (itL (cVal d) j ([], (cG st).2)).2.2 = false) (he : (cG st).1 ≤ ((i : Nat) : Int) ∨ (itL (cVal d) i ([], (cG st).2)).2.2 = true) : itL (cVal d) i ([], (cG st).2) = cH (cVal d) st := by unfold cH; exact it_exit (r := ([], (cG st).2)) (val_go d) h he
theorem cA_le : (cA st).2.1.length ≤ st.1.length := Nat.le_trans (cNum_len [44] (cSign [118] st)) (cSign_len [118] st)
theorem cB_le : (cB st).2.1.length ≤ st.1.length := Nat.le_trans (cNum_len [44] (cA st).2) cA_le
theorem cC_le : (cC st).2.1.length ≤ st.1.length := Nat.le_trans (cNum_len [44] (cB st).2) cB_le
theorem cD_le : (cD st).2.1.length ≤ st.1.length := by
  unfold cD
  generalize hz : (cC st).2 = z
  have h := @cC_le st
  rw [hz] at h
  exact Nat.le_trans (cText_len z) h
theorem cE_le : (cE st).2.1.length ≤ st.1.length := Nat.le_trans (cE_len st) (cSign_len [118] st)
theorem cF_le : (cF st).2.1.length ≤ st.1.length := Nat.le_trans (cF_len st) cE_le
theorem cG_le : (cG st).2.1.length ≤ st.1.length := Nat.le_trans (cG_len st) cF_le
/-- a value within a value has less of the line -/
theorem item_less {d i : Nat} (hs : st.1.length < d + 1) (h : ∀ j : Nat, j < i → ((j : Nat) : Int) < (cG st).1 ∧ (itL (cVal d) j ([], (cG st).2)).2.2 = false) (hw : (itL (cVal d) i ([], (cG st).2)).2.2 = false) : (itL (cVal d) i ([], (cG st).2)).2.1.length < d := by
  have h0 := it_start (r := ([], (cG st).2)) h hw
  have h0 : (cG st).2.2 = false := h0
  have h1 : (cSign [118] st).2 = false := by
    cases hh : (cSign [118] st).2 with
    | false => rfl
    | true =>
      have h2 := cE_stick hh
      have h3 : (cF st).2.2 = true := by unfold cF; exact cLoop_stick h2
      have h4 : (cG st).2.2 = true := by unfold cG; exact cNum_stick (cSign_stick h3)
      rw [h4] at h0; cases h0
  have h2 := sign_less h1
  have h3 := it_le (B := cVal d) (fun a => cVal_len d a) ([], (cG st).2) i
  have h4 := cG_len st
  have h5 := cF_len st
  have h6 := cE_len st
  have h3 : (itL (cVal d) i ([], (cG st).2)).2.1.length ≤ (cG st).2.1.length := h3
  omega
end
end
end Go.Abs
