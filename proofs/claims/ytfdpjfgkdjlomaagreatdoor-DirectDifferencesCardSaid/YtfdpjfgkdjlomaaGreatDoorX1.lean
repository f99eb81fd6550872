/- A part of the proof of DirectDifferences: see the last text of this claim. -/
import Derived.Test.YtfdpjfgkdjlomaaGreatDoorA4
namespace Go.Abs
noncomputable section
open Go
/-! ## For DirectDifferences, no program in sight: values -/
def isDg (c : UInt8) : Bool := decide (48 ≤ c.toNat) && decide (c.toNat ≤ 57)
def meetO (left : Int) (over : Bool) (deep : Int) : Bool := over || (decide (wrapF .i64 (left - 1) < 0) || decide (deep < 1))
mutual
def sizerV : Val → Int → Int × Bool → Int × Bool
  | .mk _ _ _ _ _ _ _ items, deep, s => bif meetO s.1 s.2 deep then (wrapF .i64 (s.1 - 1), meetO s.1 s.2 deep) else sizerL items (wrapF .i64 (deep - 1)) (wrapF .i64 (s.1 - 1), meetO s.1 s.2 deep)
def sizerL : List Val → Int → Int × Bool → Int × Bool
  | [], _, s => s
  | v :: l, d, s => bif s.2 then s else sizerL l d (sizerV v d s)
end
theorem sizerL_stop (d : Int) (s : Int × Bool) (h : s.2 = true) : ∀ l, sizerL l d s = s
  | [] => by rw [sizerL]
  | v :: l => by rw [sizerL, h]; rfl
def smallB (v : Val) (n : Int) : Bool := !(sizerV v 8 (n, false)).2
mutual
def Val.same : Val → Val → Prop
  | .mk k n e s _ names _ items, .mk k' n' e' s' _ names' _ items' => k = k' ∧ n = n' ∧ e = e' ∧ s = s' ∧ names = names' ∧ sameL items items'
def sameL : List Val → List Val → Prop
  | [], [] => True
  | a :: l, b :: k => a.same b ∧ sameL l k
  | [], _ :: _ => False
  | _ :: _, [] => False
end
/-- elements -/
def vAt (l : List Val) (i : Nat) : Val := l.getD i default
def sAt (l : List Str) (i : Nat) : Str := l.getD i default
def eAt (l : List Mev) (i : Nat) : Mev := l.getD i default
theorem vAt_get {l : List Val} {i : Nat} (h : i < l.length) : vAt l i = l[i] := by unfold vAt; rw [List.getD_eq_getElem?_getD, List.getElem?_eq_getElem h]; rfl
theorem sAt_get {l : List Str} {i : Nat} (h : i < l.length) : sAt l i = l[i] := by unfold sAt; rw [List.getD_eq_getElem?_getD, List.getElem?_eq_getElem h]; rfl
theorem eAt_get {l : List Mev} {i : Nat} (h : i < l.length) : eAt l i = l[i] := by unfold eAt; rw [List.getD_eq_getElem?_getD, List.getElem?_eq_getElem h]; rfl
/-- a value out of its fields -/
def mk6 (k n e : Int) (s : Str) (names : List Str) (items : List Val) : Val := .mk k n e s true names true items
mutual
def Val.dep : Val → Nat
  | .mk _ _ _ _ _ _ _ items => depL items + 1
def depL : List Val → Nat
  | [] => 0
  | v :: l => max v.dep (depL l)
end
theorem depL_at : ∀ {l : List Val} {i : Nat}, i < l.length → (l.getD i default).dep ≤ depL l
  | [], i, h => by cases h
  | a :: l, 0, _ => by rw [depL]; exact Nat.le_max_left _ _
  | a :: l, i + 1, h => by
    rw [depL]
    exact Nat.le_trans (depL_at (l := l) (i := i) (by simpa using h)) (Nat.le_max_right _ _)
mutual
/-- all lists are as long as memory can hold -/
def Val.ok : Val → Prop
  | .mk _ _ _ s _ names _ items => s.length < big ∧ names.length < big ∧ items.length < big ∧ okL items ∧ ∀ x ∈ names, x.length < big
def okL : List Val → Prop
  | [] => True
  | v :: l => v.ok ∧ okL l
end
theorem okL_at : ∀ {l : List Val} {i : Nat}, okL l → i < l.length → (l.getD i default).ok
  | [], i, _, h => by cases h
  | a :: l, 0, k, _ => by rw [okL] at k; exact k.1
  | a :: l, i + 1, k, h => by rw [okL] at k; exact okL_at (l := l) (i := i) k.2 (by simpa using h)
theorem ok_fields {v : Val} (h : v.ok) : v.s.length < big ∧ v.names.length < big ∧ v.items.length < big ∧ okL v.items ∧ ∀ x ∈ v.names, x.length < big := by
  cases v; rw [Val.ok] at h; exact h
theorem ok_of {k n e : Int} {s : Str} {names : List Str} {items : List Val} (h : (mk6 k n e s names items).ok) : s.length < big ∧ names.length < big ∧ items.length < big ∧ okL items ∧ ∀ x ∈ names, x.length < big := by
  unfold mk6 at h; rw [Val.ok] at h; exact h
/-- a search by rounds, as one over the list -/
theorem scan_eq {α β : Type} [Inhabited α] (l : List α) (f : Nat → Nat → β) (G : Nat → List α → β) (h0 : ∀ i, f i 0 = G i []) (h1 : ∀ i m x r, i < l.length → l.getD i default = x → f (i + 1) m = G (i + 1) r → f i (m + 1) = G i (x :: r)) : f 0 l.length = G 0 l := by
  have key : ∀ m i, i + m = l.length → f i m = G i (l.drop i) := by
    intro m
    induction m with
    | zero =>
      intro i hi
      rw [h0, List.drop_of_length_le (by omega)]
    | succ m ih =>
      intro i hi
      have hlt : i < l.length := by omega
      rw [List.drop_eq_getElem_cons hlt]
      refine h1 i m _ _ hlt ?_ (ih (i + 1) (by omega))
      rw [List.getD_eq_getElem?_getD, List.getElem?_eq_getElem hlt]; rfl
  have := key l.length 0 (by omega)
  rwa [List.drop_zero] at this
end
end Go.Abs
namespace Go.Abs
noncomputable section
open Go
/-! ## For DirectDifferences, no program in sight: the order of values -/
def orC (a b : Int) : Int := bif a != 0 then a else b
def cmpI (a b : Int) : Int := bif decide (a < b) then -1 else bif decide (b < a) then 1 else 0
def cmpS : List UInt8 → List UInt8 → Int
  | [], [] => 0
  | [], _ :: _ => -1
  | _ :: _, [] => 1
  | a :: l, b :: k => orC (cmpI a.toNat b.toNat) (cmpS l k)
def cmpN : List (List UInt8) → List (List UInt8) → Int
  | [], [] => 0
  | [], _ :: _ => -1
  | _ :: _, [] => 1
  | a :: l, b :: k => orC (cmpS a b) (cmpN l k)
mutual
def cmpV : Val → Val → Int
  | .mk k n e s _ names _ items, .mk k' n' e' s' _ names' _ items' => orC (cmpI k k') (orC (cmpI n n') (orC (cmpI e e') (orC (cmpS s s') (orC (cmpN names names') (cmpL items items')))))
def cmpL : List Val → List Val → Int
  | [], [] => 0
  | [], _ :: _ => -1
  | _ :: _, [] => 1
  | a :: l, b :: k => orC (cmpV a b) (cmpL l k)
end
theorem orC_neg (a b : Int) : orC (-a) (-b) = -(orC a b) := by
  unfold orC
  by_cases h : a = 0
  · subst h; rfl
  · have h1 : (a != 0) = true := by simpa using h
    have h2 : (-a != 0) = true := by simp only [bne_iff_ne, ne_eq]; omega
    rw [h1, h2]; rfl
theorem cmpI_neg (a b : Int) : cmpI b a = -(cmpI a b) := by
  unfold cmpI
  by_cases h1 : a < b
  · have h2 : ¬ b < a := by omega
    rw [decide_eq_true h1, decide_eq_false h2]; rfl
  · rw [decide_eq_false h1]
    by_cases h2 : b < a
    · rw [decide_eq_true h2]; rfl
    · rw [decide_eq_false h2]; rfl
theorem cmpS_neg : ∀ a b : List UInt8, cmpS b a = -(cmpS a b)
  | [], [] => rfl
  | [], _ :: _ => rfl
  | _ :: _, [] => rfl
  | a :: l, b :: k => by rw [cmpS, cmpS, cmpI_neg, cmpS_neg l k, orC_neg]
theorem cmpN_neg : ∀ a b : List (List UInt8), cmpN b a = -(cmpN a b)
  | [], [] => rfl
  | [], _ :: _ => rfl
  | _ :: _, [] => rfl
  | a :: l, b :: k => by rw [cmpN, cmpN, cmpS_neg, cmpN_neg l k, orC_neg]
mutual
theorem cmpV_neg : ∀ a b : Val, cmpV b a = -(cmpV a b)
  | .mk k n e s nn names ni items, .mk k' n' e' s' nn' names' ni' items' => by
    rw [cmpV, cmpV, cmpI_neg k k', cmpI_neg n n', cmpI_neg e e', cmpS_neg s s', cmpN_neg names names', cmpL_neg items items', orC_neg, orC_neg, orC_neg, orC_neg, orC_neg]
theorem cmpL_neg : ∀ a b : List Val, cmpL b a = -(cmpL a b)
  | [], [] => by rw [cmpL]; rfl
  | [], _ :: _ => by rw [cmpL, cmpL]; rfl
  | _ :: _, [] => by rw [cmpL, cmpL]
  | a :: l, b :: k => by rw [cmpL, cmpL, cmpV_neg a b, cmpL_neg l k, orC_neg]
end
/-- the program looks from the end, at the later one and the one before; the reference from the beginning, the other way round -/
theorem sort_same (a b : Val) : decide (cmpV b a < 0) = decide (cmpV a b > 0) := decide_eq_decide.2 (by rw [cmpV_neg a b]; omega)

/-! ## Names -/
def letB (c : UInt8) : Bool := (decide (97 ≤ c.toNat) && decide (c.toNat ≤ 122)) || (decide (65 ≤ c.toNat) && decide (c.toNat ≤ 90))
def okC (c : UInt8) : Bool := letB c || (decide (c = 45) || (decide (c = 95) || isDg c))
def hasDD : List UInt8 → Bool
  | [] => false
  | a :: l => (decide (a = 45) && decide (l.head? = some 45)) || hasDD l
def restR : UInt8 → List UInt8 → Bool
  | _, [] => true
  | p, c :: l => (isDg c || (letB c || (decide (c = 95) || (decide (c = 45) && !(decide (p = 45)))))) && restR c l
def nameC (s : List UInt8) : Bool := match s with
  | [] => false
  | a :: l => decide (l.length < 32) && (!(decide ((a :: l).getLast? = some 45)) && (!(hasDD (a :: l)) && (letB a && l.all okC)))
def nameR (s : List UInt8) : Bool := match s with
  | [] => false
  | a :: l => decide (l.length < 32) && (letB a && (!(decide ((a :: l).getLast? = some 45)) && restR a l))
theorem rest_same : ∀ (l : List UInt8) (a : UInt8), (!(hasDD (a :: l)) && l.all okC) = restR a l
  | [], a => by simp [hasDD, restR]
  | c :: l, a => by
    have ih := rest_same l c
    rw [restR, ← ih, hasDD, List.all_cons]
    simp only [List.head?_cons, Option.some.injEq]
    by_cases hc : c = 45
    · subst hc
      have e1 : okC 45 = true := rfl
      have e2 : isDg 45 = false := rfl
      have e3 : letB 45 = false := rfl
      rw [e1, e2, e3]
      cases hasDD (45 :: l) <;> cases l.all okC <;> cases decide (a = 45) <;> simp
    · have e1 : decide (c = 45) = false := decide_eq_false hc
      unfold okC
      rw [e1]
      cases hasDD (c :: l) <;> cases l.all okC <;> cases letB c <;> cases decide (c = 95) <;> cases isDg c <;> simp
theorem name_same (s : List UInt8) : nameC s = nameR s := by
  cases s with
  | nil => rfl
  | cons a l =>
    unfold nameC nameR
    simp only
    rw [← rest_same l a]
    cases decide (l.length < 32) <;> cases decide ((a :: l).getLast? = some 45) <;> cases hasDD (a :: l) <;> cases letB a <;> cases l.all okC <;> rfl
end
end Go.Abs
namespace Go.Abs
noncomputable section
open Go
/-! ## For DirectDifferences: the errors of a value, by the program and by the reference -/
/-- an item that stood before -/
def dupAt (l : List (List UInt8)) (i : Nat) : Bool := (l.take i).any fun x => beqBytes x (l.getD i [])
def dupB (l : List (List UInt8)) : Bool := (List.range l.length).any (dupAt l)
/-- an item greater than the one behind it -/
def fallAt (l : List Val) (i : Nat) : Bool := decide (cmpV (l.getD i default) (l.getD (i + 1) default) > 0)
def fallB (l : List Val) : Bool := (List.range (l.length - 1)).any (fallAt l)
def charBad (k : Int) (c : UInt8) : Bool := (decide (k = 4) && (!(decide (c = 48)) && !(decide (c = 49)))) || (decide (k = 6) && (decide (c.toNat < 32) || decide (c.toNat > 126)))
/-- the program's table: is there such a kind; the lowest, the highest number; has it a string, names, items; how many; just one, sorted, numbers within bounds -/
structure Shp where
  ok : Bool
  low : Int
  high : Int
  text : Bool
  names : Bool
  items : Bool
  most : Nat
  one : Bool
  sorted : Bool
  inside : Bool
def shp (k : Int) : Shp :=
  bif decide (k = 1) then ⟨true, 0, 1, false, false, false, 0, false, false, false⟩ else
  bif decide (k = 2) then ⟨true, -1152921504606846976, 1152921504606846976, false, false, false, 0, false, false, true⟩ else
  bif decide (k = 3) || (decide (k = 4) || (decide (k = 5) || decide (k = 6))) then ⟨true, 0, 0, true, false, false, 0, false, false, false⟩ else
  bif decide (k = 9) then ⟨true, 0, 0, false, true, true, 16, false, false, false⟩ else
  bif decide (k = 10) then ⟨true, 0, 0, false, false, true, 40, false, false, false⟩ else
  bif decide (k = 11) then ⟨true, 0, 0, false, false, true, 40, false, true, false⟩ else
  bif decide (k = 12) then ⟨true, 0, 0, false, true, true, 1, true, false, false⟩ else
  bif decide (k = 14) then ⟨true, 0, 4, false, false, false, 0, false, false, false⟩ else
  ⟨false, 0, 0, false, false, false, 0, false, false, false⟩
def ownC (k n e : Int) (s : List UInt8) (names : List (List UInt8)) (items : List Val) : Int :=
  bif !((shp k).ok) then 4 else
  bif decide (e ≠ 0) || ((!((shp k).text) && !(decide (s = []))) || ((!((shp k).names) && decide (0 < names.length)) || ((!((shp k).items) && decide (0 < items.length)) || (!((shp k).inside) && (decide (n < (shp k).low) || decide ((shp k).high < n)))))) then 5 else
  bif ((shp k).names && !(decide (names.length = items.length))) || ((shp k).one && !(decide (items.length = 1))) then 6 else
  bif decide (200 < s.length) || ((shp k).items && decide ((shp k).most < items.length)) then 2 else
  bif decide (n < (shp k).low) || decide ((shp k).high < n) then 3 else
  bif s.any (charBad k) then 3 else
  bif (decide (k = 3) && !(nameC s)) || names.any (fun x => !(nameC x)) then 7 else
  bif dupB names then 13 else
  bif (shp k).sorted && fallB items then 14 else 0
def win (k a b : Int) : Bool := decide (a ≤ k) && decide (k ≤ b)
def ownR (k n e : Int) (s : List UInt8) (names : List (List UInt8)) (items : List Val) : Int :=
  bif !(win k 1 6 || (win k 9 12 || decide (k = 14))) then 4 else
  bif decide (e ≠ 0) || ((!(decide (k = 1) || (decide (k = 2) || decide (k = 14))) && decide (n ≠ 0)) || ((!(win k 3 6) && !(decide (s = []))) || ((!(decide (k = 9) || decide (k = 12)) && decide (0 < names.length)) || (!(win k 9 12) && decide (0 < items.length))))) then 5 else
  bif (decide (k = 1) && !(win n 0 1)) || (decide (k = 14) && !(win n 0 4)) then 5 else
  bif ((decide (k = 9) || decide (k = 12)) && !(decide (names.length = items.length))) || (decide (k = 12) && !(decide (items.length = 1))) then 6 else
  bif decide (200 < s.length) || ((decide (k = 9) && decide (16 < items.length)) || decide (40 < items.length)) then 2 else
  bif (decide (k = 2) && !(win n (-1152921504606846976) 1152921504606846976)) || s.any (charBad k) then 3 else
  bif decide (k = 3) && !(nameR s) then 7 else
  bif names.any (fun x => !(nameR x)) then 7 else
  bif dupB names then 13 else
  bif decide (k = 11) && fallB items then 14 else 0
theorem own_same (k n e : Int) (s : List UInt8) (names : List (List UInt8)) (items : List Val) : ownC k n e s names items = ownR k n e s names items := by
  have hn : nameC = nameR := funext name_same
  unfold ownC ownR
  rw [hn]
  have kc : k = 1 ∨ k = 2 ∨ k = 3 ∨ k = 4 ∨ k = 5 ∨ k = 6 ∨ k = 9 ∨ k = 10 ∨ k = 11 ∨ k = 12 ∨ k = 14 ∨ (k < 1 ∨ k = 7 ∨ k = 8 ∨ k = 13 ∨ 14 < k) := by omega
  have d0 : decide (n ≠ 0) = (decide (n < 0) || decide (0 < n)) := by
    by_cases h : n = 0
    · subst h; rfl
    · by_cases h2 : n < 0
      · rw [decide_eq_true h, decide_eq_true h2]; rfl
      · rw [decide_eq_true h, decide_eq_false h2, decide_eq_true (show 0 < n by omega)]; rfl
  have hw : ∀ a b : Int, (!(win n a b)) = (decide (n < a) || decide (b < n)) := by
    intro a b
    unfold win
    by_cases h : n < a
    · rw [decide_eq_true h, decide_eq_false (show ¬ a ≤ n by omega)]; rfl
    · rw [decide_eq_false h, decide_eq_true (show a ≤ n by omega)]
      by_cases h2 : b < n
      · rw [decide_eq_true h2, decide_eq_false (show ¬ n ≤ b by omega)]; rfl
      · rw [decide_eq_false h2, decide_eq_true (show n ≤ b by omega)]; rfl
  have hD : decide (0 < items.length) = false → decide (16 < items.length) = false ∧ decide (40 < items.length) = false := fun h => by
    have := of_decide_eq_false h
    exact ⟨decide_eq_false (by omega), decide_eq_false (by omega)⟩
  have h16 : decide (16 < items.length) = false → decide (40 < items.length) = false := fun h => by
    have := of_decide_eq_false h
    exact decide_eq_false (by omega)
  have h1 : decide (items.length = 1) = true → decide (1 < items.length) = false ∧ decide (40 < items.length) = false := fun h => by
    have := of_decide_eq_true h
    exact ⟨decide_eq_false (by omega), decide_eq_false (by omega)⟩
  rw [hw 0 1, hw 0 4, hw (-1152921504606846976) 1152921504606846976, d0]
  generalize s.any (charBad k) = cb
  generalize names.any (fun x => !(nameR x)) = nb
  generalize nameR s = sb
  generalize dupB names = db
  generalize fallB items = fb
  generalize decide (s = []) = se
  generalize decide (200 < s.length) = sl
  rcases kc with rfl | rfl | rfl | rfl | rfl | rfl | rfl | rfl | rfl | rfl | rfl | h
  · simp only [show shp 1 = ⟨true, 0, 1, false, false, false, 0, false, false, false⟩ from rfl, show win 1 1 6 = true from rfl, show win 1 3 6 = false from rfl, show win 1 9 12 = false from rfl, show decide ((1 : Int) = 1) = true from rfl, show decide ((1 : Int) = 2) = false from rfl, show decide ((1 : Int) = 3) = false from rfl, show decide ((1 : Int) = 9) = false from rfl, show decide ((1 : Int) = 11) = false from rfl, show decide ((1 : Int) = 12) = false from rfl, show decide ((1 : Int) = 14) = false from rfl]
    simp only [decide_true, Bool.true_and, Bool.false_and, Bool.and_true, Bool.and_false, Bool.true_or, Bool.false_or, Bool.or_false, Bool.or_true, Bool.not_true, Bool.not_false, cond_true, cond_false]
    revert hD
    generalize decide (e ≠ 0) = A
    generalize decide (0 < names.length) = C
    generalize decide (0 < items.length) = D
    generalize decide (n < 0) = N0
    generalize decide (1 < n) = N2
    generalize decide (40 < items.length) = E40
    generalize decide (16 < items.length) = E16
    revert A se C D N0 N2 sl E40 cb nb db E16
    decide
  · simp only [show shp 2 = ⟨true, -1152921504606846976, 1152921504606846976, false, false, false, 0, false, false, true⟩ from rfl, show win 2 1 6 = true from rfl, show win 2 3 6 = false from rfl, show win 2 9 12 = false from rfl, show decide ((2 : Int) = 1) = false from rfl, show decide ((2 : Int) = 2) = true from rfl, show decide ((2 : Int) = 3) = false from rfl, show decide ((2 : Int) = 9) = false from rfl, show decide ((2 : Int) = 11) = false from rfl, show decide ((2 : Int) = 12) = false from rfl, show decide ((2 : Int) = 14) = false from rfl]
    simp only [decide_true, Bool.true_and, Bool.false_and, Bool.and_true, Bool.and_false, Bool.true_or, Bool.false_or, Bool.or_false, Bool.or_true, Bool.not_true, Bool.not_false, cond_true, cond_false]
    revert hD
    generalize decide (e ≠ 0) = A
    generalize decide (0 < names.length) = C
    generalize decide (0 < items.length) = D
    generalize decide (n < -1152921504606846976) = NL
    generalize decide (1152921504606846976 < n) = NH
    generalize decide (40 < items.length) = E40
    generalize decide (16 < items.length) = E16
    revert A se C D NL NH sl E40 cb nb db E16
    decide
  · simp only [show shp 3 = ⟨true, 0, 0, true, false, false, 0, false, false, false⟩ from rfl, show win 3 1 6 = true from rfl, show win 3 3 6 = true from rfl, show win 3 9 12 = false from rfl, show decide ((3 : Int) = 1) = false from rfl, show decide ((3 : Int) = 2) = false from rfl, show decide ((3 : Int) = 3) = true from rfl, show decide ((3 : Int) = 9) = false from rfl, show decide ((3 : Int) = 11) = false from rfl, show decide ((3 : Int) = 12) = false from rfl, show decide ((3 : Int) = 14) = false from rfl]
    simp only [decide_true, Bool.true_and, Bool.false_and, Bool.and_true, Bool.and_false, Bool.true_or, Bool.false_or, Bool.or_false, Bool.or_true, Bool.not_true, Bool.not_false, cond_true, cond_false]
    revert hD
    generalize decide (e ≠ 0) = A
    generalize decide (0 < names.length) = C
    generalize decide (0 < items.length) = D
    generalize decide (n < 0) = N0
    generalize decide (0 < n) = N1
    generalize decide (40 < items.length) = E40
    generalize decide (16 < items.length) = E16
    revert A C D N0 N1 sl E40 cb sb nb db E16
    decide
  · simp only [show shp 4 = ⟨true, 0, 0, true, false, false, 0, false, false, false⟩ from rfl, show win 4 1 6 = true from rfl, show win 4 3 6 = true from rfl, show win 4 9 12 = false from rfl, show decide ((4 : Int) = 1) = false from rfl, show decide ((4 : Int) = 2) = false from rfl, show decide ((4 : Int) = 3) = false from rfl, show decide ((4 : Int) = 9) = false from rfl, show decide ((4 : Int) = 11) = false from rfl, show decide ((4 : Int) = 12) = false from rfl, show decide ((4 : Int) = 14) = false from rfl]
    simp only [decide_true, Bool.true_and, Bool.false_and, Bool.and_true, Bool.and_false, Bool.true_or, Bool.false_or, Bool.or_false, Bool.or_true, Bool.not_true, Bool.not_false, cond_true, cond_false]
    revert hD
    generalize decide (e ≠ 0) = A
    generalize decide (0 < names.length) = C
    generalize decide (0 < items.length) = D
    generalize decide (n < 0) = N0
    generalize decide (0 < n) = N1
    generalize decide (40 < items.length) = E40
    generalize decide (16 < items.length) = E16
    revert A C D N0 N1 sl E40 cb nb db E16
    decide
  · simp only [show shp 5 = ⟨true, 0, 0, true, false, false, 0, false, false, false⟩ from rfl, show win 5 1 6 = true from rfl, show win 5 3 6 = true from rfl, show win 5 9 12 = false from rfl, show decide ((5 : Int) = 1) = false from rfl, show decide ((5 : Int) = 2) = false from rfl, show decide ((5 : Int) = 3) = false from rfl, show decide ((5 : Int) = 9) = false from rfl, show decide ((5 : Int) = 11) = false from rfl, show decide ((5 : Int) = 12) = false from rfl, show decide ((5 : Int) = 14) = false from rfl]
    simp only [decide_true, Bool.true_and, Bool.false_and, Bool.and_true, Bool.and_false, Bool.true_or, Bool.false_or, Bool.or_false, Bool.or_true, Bool.not_true, Bool.not_false, cond_true, cond_false]
    revert hD
    generalize decide (e ≠ 0) = A
    generalize decide (0 < names.length) = C
    generalize decide (0 < items.length) = D
    generalize decide (n < 0) = N0
    generalize decide (0 < n) = N1
    generalize decide (40 < items.length) = E40
    generalize decide (16 < items.length) = E16
    revert A C D N0 N1 sl E40 cb nb db E16
    decide
  · simp only [show shp 6 = ⟨true, 0, 0, true, false, false, 0, false, false, false⟩ from rfl, show win 6 1 6 = true from rfl, show win 6 3 6 = true from rfl, show win 6 9 12 = false from rfl, show decide ((6 : Int) = 1) = false from rfl, show decide ((6 : Int) = 2) = false from rfl, show decide ((6 : Int) = 3) = false from rfl, show decide ((6 : Int) = 9) = false from rfl, show decide ((6 : Int) = 11) = false from rfl, show decide ((6 : Int) = 12) = false from rfl, show decide ((6 : Int) = 14) = false from rfl]
    simp only [decide_true, Bool.true_and, Bool.false_and, Bool.and_true, Bool.and_false, Bool.true_or, Bool.false_or, Bool.or_false, Bool.or_true, Bool.not_true, Bool.not_false, cond_true, cond_false]
    revert hD
    generalize decide (e ≠ 0) = A
    generalize decide (0 < names.length) = C
    generalize decide (0 < items.length) = D
    generalize decide (n < 0) = N0
    generalize decide (0 < n) = N1
    generalize decide (40 < items.length) = E40
    generalize decide (16 < items.length) = E16
    revert A C D N0 N1 sl E40 cb nb db E16
    decide
  · simp only [show shp 9 = ⟨true, 0, 0, false, true, true, 16, false, false, false⟩ from rfl, show win 9 1 6 = false from rfl, show win 9 3 6 = false from rfl, show win 9 9 12 = true from rfl, show decide ((9 : Int) = 1) = false from rfl, show decide ((9 : Int) = 2) = false from rfl, show decide ((9 : Int) = 3) = false from rfl, show decide ((9 : Int) = 9) = true from rfl, show decide ((9 : Int) = 11) = false from rfl, show decide ((9 : Int) = 12) = false from rfl, show decide ((9 : Int) = 14) = false from rfl]
    simp only [decide_true, Bool.true_and, Bool.false_and, Bool.and_true, Bool.and_false, Bool.true_or, Bool.false_or, Bool.or_false, Bool.or_true, Bool.not_true, Bool.not_false, cond_true, cond_false]
    revert h16
    generalize decide (e ≠ 0) = A
    generalize decide (n < 0) = N0
    generalize decide (0 < n) = N1
    generalize decide (names.length = items.length) = Q
    generalize decide (16 < items.length) = E16
    generalize decide (40 < items.length) = E40
    revert A se N0 N1 Q sl E16 E40 cb nb db
    decide
  · simp only [show shp 10 = ⟨true, 0, 0, false, false, true, 40, false, false, false⟩ from rfl, show win 10 1 6 = false from rfl, show win 10 3 6 = false from rfl, show win 10 9 12 = true from rfl, show decide ((10 : Int) = 1) = false from rfl, show decide ((10 : Int) = 2) = false from rfl, show decide ((10 : Int) = 3) = false from rfl, show decide ((10 : Int) = 9) = false from rfl, show decide ((10 : Int) = 11) = false from rfl, show decide ((10 : Int) = 12) = false from rfl, show decide ((10 : Int) = 14) = false from rfl]
    simp only [decide_true, Bool.true_and, Bool.false_and, Bool.and_true, Bool.and_false, Bool.true_or, Bool.false_or, Bool.or_false, Bool.or_true, Bool.not_true, Bool.not_false, cond_true, cond_false]
    generalize decide (e ≠ 0) = A
    generalize decide (0 < names.length) = C
    generalize decide (n < 0) = N0
    generalize decide (0 < n) = N1
    generalize decide (40 < items.length) = E40
    revert A se C N0 N1 sl E40 cb nb db
    decide
  · simp only [show shp 11 = ⟨true, 0, 0, false, false, true, 40, false, true, false⟩ from rfl, show win 11 1 6 = false from rfl, show win 11 3 6 = false from rfl, show win 11 9 12 = true from rfl, show decide ((11 : Int) = 1) = false from rfl, show decide ((11 : Int) = 2) = false from rfl, show decide ((11 : Int) = 3) = false from rfl, show decide ((11 : Int) = 9) = false from rfl, show decide ((11 : Int) = 11) = true from rfl, show decide ((11 : Int) = 12) = false from rfl, show decide ((11 : Int) = 14) = false from rfl]
    simp only [decide_true, Bool.true_and, Bool.false_and, Bool.and_true, Bool.and_false, Bool.true_or, Bool.false_or, Bool.or_false, Bool.or_true, Bool.not_true, Bool.not_false, cond_true, cond_false]
    generalize decide (e ≠ 0) = A
    generalize decide (0 < names.length) = C
    generalize decide (n < 0) = N0
    generalize decide (0 < n) = N1
    generalize decide (40 < items.length) = E40
    revert A se C N0 N1 sl E40 cb nb db fb
    decide
  · simp only [show shp 12 = ⟨true, 0, 0, false, true, true, 1, true, false, false⟩ from rfl, show win 12 1 6 = false from rfl, show win 12 3 6 = false from rfl, show win 12 9 12 = true from rfl, show decide ((12 : Int) = 1) = false from rfl, show decide ((12 : Int) = 2) = false from rfl, show decide ((12 : Int) = 3) = false from rfl, show decide ((12 : Int) = 9) = false from rfl, show decide ((12 : Int) = 11) = false from rfl, show decide ((12 : Int) = 12) = true from rfl, show decide ((12 : Int) = 14) = false from rfl]
    simp only [decide_true, Bool.true_and, Bool.false_and, Bool.and_true, Bool.and_false, Bool.true_or, Bool.false_or, Bool.or_false, Bool.or_true, Bool.not_true, Bool.not_false, cond_true, cond_false]
    revert h1
    generalize decide (e ≠ 0) = A
    generalize decide (n < 0) = N0
    generalize decide (0 < n) = N1
    generalize decide (names.length = items.length) = Q
    generalize decide (items.length = 1) = O
    generalize decide (1 < items.length) = E1
    generalize decide (40 < items.length) = E40
    revert A se N0 N1 Q O sl E1 E40 cb nb db
    decide
  · simp only [show shp 14 = ⟨true, 0, 4, false, false, false, 0, false, false, false⟩ from rfl, show win 14 1 6 = false from rfl, show win 14 3 6 = false from rfl, show win 14 9 12 = false from rfl, show decide ((14 : Int) = 1) = false from rfl, show decide ((14 : Int) = 2) = false from rfl, show decide ((14 : Int) = 3) = false from rfl, show decide ((14 : Int) = 9) = false from rfl, show decide ((14 : Int) = 11) = false from rfl, show decide ((14 : Int) = 12) = false from rfl, show decide ((14 : Int) = 14) = true from rfl]
    simp only [decide_true, Bool.true_and, Bool.false_and, Bool.and_true, Bool.and_false, Bool.true_or, Bool.false_or, Bool.or_false, Bool.or_true, Bool.not_true, Bool.not_false, cond_true, cond_false]
    revert hD
    generalize decide (e ≠ 0) = A
    generalize decide (0 < names.length) = C
    generalize decide (0 < items.length) = D
    generalize decide (n < 0) = N0
    generalize decide (4 < n) = N4
    generalize decide (40 < items.length) = E40
    generalize decide (16 < items.length) = E16
    revert A se C D N0 N4 sl E40 cb nb db E16
    decide
  · have f1 : shp k = ⟨false, 0, 0, false, false, false, 0, false, false, false⟩ := by
      unfold shp
      rw [decide_eq_false (show ¬ k = 1 by omega), decide_eq_false (show ¬ k = 2 by omega), decide_eq_false (show ¬ k = 3 by omega), decide_eq_false (show ¬ k = 4 by omega), decide_eq_false (show ¬ k = 5 by omega), decide_eq_false (show ¬ k = 6 by omega), decide_eq_false (show ¬ k = 9 by omega), decide_eq_false (show ¬ k = 10 by omega), decide_eq_false (show ¬ k = 11 by omega), decide_eq_false (show ¬ k = 12 by omega), decide_eq_false (show ¬ k = 14 by omega)]
      rfl
    have f2 : win k 1 6 = false := by
      unfold win
      by_cases h2 : 1 ≤ k
      · rw [decide_eq_false (show ¬ k ≤ 6 by omega), Bool.and_false]
      · rw [decide_eq_false h2, Bool.false_and]
    have f3 : win k 9 12 = false := by
      unfold win
      by_cases h2 : 9 ≤ k
      · rw [decide_eq_false (show ¬ k ≤ 12 by omega), Bool.and_false]
      · rw [decide_eq_false h2, Bool.false_and]
    rw [f1, f2, f3, decide_eq_false (show ¬ k = 14 by omega)]
    rfl
end
end Go.Abs
namespace Go.Abs
noncomputable section
open Go
/-! ## For DirectDifferences: is a value small, by the program's meter and by the reference's sizer; the first error of a value and of those within it -/
mutual
def fitV : Val → Int → Int → Int × Bool
  | .mk _ _ _ _ _ _ _ items, lv, z => bif decide (wrapF .i64 (z - 1) < 0) || decide (lv < 1) then (wrapF .i64 (z - 1), false) else fitL items (wrapF .i64 (lv - 1)) (wrapF .i64 (z - 1))
def fitL : List Val → Int → Int → Int × Bool
  | [], _, z => (z, true)
  | v :: l, lv, z => bif !(fitV v lv z).2 then ((fitV v lv z).1, false) else fitL l lv (fitV v lv z).1
end
mutual
theorem fit_sizer : ∀ (v : Val) (lv z : Int), sizerV v lv (z, false) = ((fitV v lv z).1, !(fitV v lv z).2)
  | .mk k n e s nn names ni items, lv, z => by
    rw [sizerV, fitV]
    unfold meetO
    simp only [Bool.false_or]
    cases decide (wrapF .i64 (z - 1) < 0) || decide (lv < 1) with
    | true => rfl
    | false => simp only [cond_false]; exact fit_sizerL items _ _
theorem fit_sizerL : ∀ (l : List Val) (lv z : Int), sizerL l lv (z, false) = ((fitL l lv z).1, !(fitL l lv z).2)
  | [], lv, z => by rw [sizerL, fitL]; rfl
  | v :: l, lv, z => by
    rw [sizerL, fitL]
    simp only [cond_false]
    rw [fit_sizer v lv z]
    cases hf : (fitV v lv z).2 with
    | false =>
      simp only [Bool.not_false, cond_true]
      rw [sizerL_stop _ _ rfl]
    | true =>
      simp only [Bool.not_true, cond_false]
      exact fit_sizerL l lv _
end
theorem small_same (v : Val) : (fitV v 8 120).2 = smallB v 120 := by
  unfold smallB
  rw [fit_sizer]
  simp
mutual
/-- the program's, and the reference's -/
def plErrC : Val → Int
  | .mk k n e s _ names _ items => bif ownC k n e s names items != 0 then ownC k n e s names items else plErrCL items
def plErrCL : List Val → Int
  | [] => 0
  | v :: l => bif plErrC v != 0 then plErrC v else plErrCL l
end
mutual
def plErrR : Val → Int
  | .mk k n e s _ names _ items => bif ownR k n e s names items != 0 then ownR k n e s names items else plErrRL items
def plErrRL : List Val → Int
  | [] => 0
  | v :: l => bif plErrR v != 0 then plErrR v else plErrRL l
end
mutual
theorem pl_same : ∀ v : Val, plErrC v = plErrR v
  | .mk k n e s nn names ni items => by rw [plErrC, plErrR, own_same, pl_sameL items]
theorem pl_sameL : ∀ l : List Val, plErrCL l = plErrRL l
  | [] => by rw [plErrCL, plErrRL]
  | v :: l => by rw [plErrCL, plErrRL, pl_same v, pl_sameL l]
end
def plainC (v : Val) : Int := bif !(fitV v 8 120).2 then 2 else plErrC v
def plainR (v : Val) : Int := bif !(smallB v 120) then 2 else plErrR v
theorem plain_same (v : Val) : plainC v = plainR v := by unfold plainC plainR; rw [small_same, pl_same]
end
end Go.Abs
namespace Go.Abs
noncomputable section
open Go
/-! ## For DirectDifferences: when two values, or events, are the same -/
theorem orC_zero {a b : Int} : orC a b = 0 ↔ a = 0 ∧ b = 0 := by
  unfold orC
  by_cases h : a = 0
  · subst h; simp
  · have h1 : (a != 0) = true := by simpa using h
    rw [h1]; simp [h]
theorem cmpI_zero {a b : Int} : cmpI a b = 0 ↔ a = b := by
  constructor
  · intro h
    unfold cmpI at h
    by_cases h1 : a < b
    · rw [decide_eq_true h1] at h; cases h
    · rw [decide_eq_false h1] at h
      by_cases h2 : b < a
      · rw [decide_eq_true h2] at h; cases h
      · omega
  · rintro rfl
    unfold cmpI
    rw [decide_eq_false (Int.lt_irrefl a)]; rfl
theorem cmpS_zero : ∀ {a b : List UInt8}, cmpS a b = 0 ↔ a = b
  | [], [] => by simp [cmpS]
  | [], _ :: _ => by simp [cmpS]
  | _ :: _, [] => by simp [cmpS]
  | a :: l, b :: k => by
    rw [cmpS, orC_zero, cmpI_zero, cmpS_zero, List.cons.injEq]
    constructor
    · rintro ⟨h1, h2⟩; exact ⟨UInt8.toNat_inj.1 (by omega), h2⟩
    · rintro ⟨rfl, h2⟩; exact ⟨rfl, h2⟩
theorem cmpN_zero : ∀ {a b : List (List UInt8)}, cmpN a b = 0 ↔ a = b
  | [], [] => by simp [cmpN]
  | [], _ :: _ => by simp [cmpN]
  | _ :: _, [] => by simp [cmpN]
  | a :: l, b :: k => by rw [cmpN, orC_zero, cmpS_zero, cmpN_zero, List.cons.injEq]
mutual
theorem cmpV_zero : ∀ {a b : Val}, cmpV a b = 0 ↔ a.same b
  | .mk k n e s nn names ni items, .mk k' n' e' s' nn' names' ni' items' => by
    rw [cmpV, Val.same, orC_zero, orC_zero, orC_zero, orC_zero, orC_zero, cmpI_zero, cmpI_zero, cmpI_zero, cmpS_zero, cmpN_zero, cmpL_zero]
theorem cmpL_zero : ∀ {a b : List Val}, cmpL a b = 0 ↔ sameL a b
  | [], [] => by rw [cmpL, sameL]; simp
  | [], _ :: _ => by rw [cmpL, sameL]; simp
  | _ :: _, [] => by rw [cmpL, sameL]; simp
  | a :: l, b :: k => by rw [cmpL, sameL, orC_zero, cmpV_zero, cmpL_zero]
end
mutual
/-- the program's comparison -/
def eqV : Val → Val → Bool
  | .mk k n e s _ names _ items, .mk k' n' e' s' _ names' _ items' => k == k' && (n == n' && (e == e' && (beqBytes s s' && (decide (names = names') && eqVL items items'))))
def eqVL : List Val → List Val → Bool
  | [], [] => true
  | [], _ :: _ => false
  | _ :: _, [] => false
  | a :: l, b :: k => eqV a b && eqVL l k
end
theorem beqBytes_iff {a b : List UInt8} : beqBytes a b = true ↔ a = b := by rw [beqBytes_eq]; exact beq_iff_eq
mutual
theorem eqV_same : ∀ {a b : Val}, eqV a b = true ↔ a.same b
  | .mk k n e s nn names ni items, .mk k' n' e' s' nn' names' ni' items' => by
    rw [eqV, Val.same]
    simp only [Bool.and_eq_true, beq_iff_eq, decide_eq_true_eq]
    rw [beqBytes_iff, eqVL_same]
theorem eqVL_same : ∀ {a b : List Val}, eqVL a b = true ↔ sameL a b
  | [], [] => by rw [eqVL, sameL]; simp
  | [], _ :: _ => by rw [eqVL, sameL]; simp
  | _ :: _, [] => by rw [eqVL, sameL]; simp
  | a :: l, b :: k => by rw [eqVL, sameL, Bool.and_eq_true, eqV_same, eqVL_same]
end
/-- the program's comparison is the reference's -/
theorem eqV_cmp (a b : Val) : eqV a b = (cmpV a b == 0) := by
  cases h : cmpV a b == 0 with
  | true => exact eqV_same.2 (cmpV_zero.1 (eq_of_beq h))
  | false =>
    cases h2 : eqV a b with
    | false => rfl
    | true => rw [cmpV_zero.2 (eqV_same.1 h2)] at h; cases h
end
end Go.Abs
