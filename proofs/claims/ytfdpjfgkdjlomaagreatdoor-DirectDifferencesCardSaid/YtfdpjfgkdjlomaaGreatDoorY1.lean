/- A part of the proof of DirectDifferences: see the last text of this claim. -/
import Derived.Test.YtfdpjfgkdjlomaaGreatDoorB4
namespace Go.Abs
noncomputable section
open Go
/-! ## For DirectDifferences, no program in sight: what the walks' searches find; characters and names -/
theorem byteAt_get {s : List UInt8} {i : Nat} {x : UInt8} (e : s.getD i default = x) : byteAt s ((i : Nat) : Int) = x := e
theorem f120_eq (k : Int) (s : Str) : f120 k s 0 s.length = bif s.any (charBad k) then 3 else 0 := by
  refine scan_eq s (f120 k s) (fun _ r => bif r.any (charBad k) then 3 else 0) (fun i => by cases i <;> rfl) fun i m x r hi e ih => ?_
  rw [f120, ih, byteAt_get e, List.any_cons]
  have h1 : ((((x.toNat : Nat) : Int) != 48)) = !(decide (x = 48)) := by
    by_cases h : x = 48
    · subst h; rfl
    · have : ¬ (((x.toNat : Nat) : Int) = 48) := fun h2 => h (UInt8.toNat_inj.1 (by show x.toNat = 48; omega))
      rw [decide_eq_false h]; simpa using this
  have h2 : ((((x.toNat : Nat) : Int) != 49)) = !(decide (x = 49)) := by
    by_cases h : x = 49
    · subst h; rfl
    · have : ¬ (((x.toNat : Nat) : Int) = 49) := fun h2 => h (UInt8.toNat_inj.1 (by show x.toNat = 49; omega))
      rw [decide_eq_false h]; simpa using this
  have h3 : decide (((x.toNat : Nat) : Int) < 32) = decide (x.toNat < 32) := decide_eq_decide.2 (by omega)
  have h4 : decide (((x.toNat : Nat) : Int) > 126) = decide (x.toNat > 126) := decide_eq_decide.2 (by omega)
  rw [h1, h2, h3, h4]
  unfold charBad
  have h5 : (k == 4) = decide (k = 4) := rfl
  have h6 : (k == 6) = decide (k = 6) := rfl
  rw [h5, h6]
  cases decide (k = 4) <;> cases decide (k = 6) <;> cases decide (x = 48) <;> cases decide (x = 49) <;> cases decide (x.toNat < 32) <;> cases decide (x.toNat > 126) <;> rfl
theorem wrap_small {n : Nat} (h : n < big) : wrapF .i64 ((n : Nat) : Int) = ((n : Nat) : Int) := by
  have h2 : n < 9223372036854775808 := h
  unfold wrapF
  have : inR64 ((n : Nat) : Int) = true := Nat.ble_eq_true_of_le (by omega)
  simp only [this, cond_true]
theorem f215_eq (k : Int) (s : Str) : f215 k s 0 s.length = !(s.any (charBad k)) := by
  refine scan_eq s (f215 k s) (fun _ r => !(r.any (charBad k))) (fun i => by cases i <;> rfl) fun i m x r hi e ih => ?_
  rw [f215, ih, byteAt_get e, List.any_cons]
  have h1 : ((((x.toNat : Nat) : Int) != 48)) = !(decide (x = 48)) := by
    by_cases h : x = 48
    · subst h; rfl
    · have : ¬ (((x.toNat : Nat) : Int) = 48) := fun h2 => h (UInt8.toNat_inj.1 (by show x.toNat = 48; omega))
      rw [decide_eq_false h]; simpa using this
  have h2 : ((((x.toNat : Nat) : Int) != 49)) = !(decide (x = 49)) := by
    by_cases h : x = 49
    · subst h; rfl
    · have : ¬ (((x.toNat : Nat) : Int) = 49) := fun h2 => h (UInt8.toNat_inj.1 (by show x.toNat = 49; omega))
      rw [decide_eq_false h]; simpa using this
  have hw : wrapF .i64 (((x.toNat : Nat) : Int)) = ((x.toNat : Nat) : Int) := wrap_small (by have := x.toNat_lt; show x.toNat < 9223372036854775808; omega)
  rw [h1, h2, hw]
  have h3 : (!(a214 ((x.toNat : Nat) : Int) 32 126)) = (decide (x.toNat < 32) || decide (x.toNat > 126)) := by
    unfold a214
    by_cases q1 : x.toNat < 32
    · rw [decide_eq_false (show ¬ (32 : Int) ≤ ((x.toNat : Nat) : Int) by omega), decide_eq_true q1]; rfl
    · rw [decide_eq_true (show (32 : Int) ≤ ((x.toNat : Nat) : Int) by omega), decide_eq_false q1]
      by_cases q2 : x.toNat > 126
      · rw [decide_eq_false (show ¬ ((x.toNat : Nat) : Int) ≤ 126 by omega), decide_eq_true q2]; rfl
      · rw [decide_eq_true (show ((x.toNat : Nat) : Int) ≤ 126 by omega), decide_eq_false q2]; rfl
  rw [h3]
  unfold charBad
  have h5 : (k == 4) = decide (k = 4) := rfl
  have h6 : (k == 6) = decide (k = 6) := rfl
  rw [h5, h6]
  cases decide (k = 4) <;> cases decide (k = 6) <;> cases decide (x = 48) <;> cases decide (x = 49) <;> cases decide (x.toNat < 32) <;> cases decide (x.toNat > 126) <;> rfl
theorem byte_ne (x y : UInt8) : (((x.toNat : Nat) : Int) != ((y.toNat : Nat) : Int)) = !(decide (x = y)) := by
  by_cases h : x = y
  · subst h; rw [decide_eq_true rfl]; simp
  · have : ¬ (((x.toNat : Nat) : Int) = ((y.toNat : Nat) : Int)) := fun h2 => h (UInt8.toNat_inj.1 (by omega))
    rw [decide_eq_false h]; simpa using this
theorem byte_eq (x y : UInt8) : (((x.toNat : Nat) : Int) == ((y.toNat : Nat) : Int)) = decide (x = y) := by
  have := byte_ne x y
  rw [bne] at this
  rw [← Bool.not_not (((x.toNat : Nat) : Int) == ((y.toNat : Nat) : Int)), this, Bool.not_not]
theorem byte_ge (n : Nat) (x : UInt8) : decide (((n : Nat) : Int) ≤ ((x.toNat : Nat) : Int)) = decide (n ≤ x.toNat) := decide_eq_decide.2 (by omega)
theorem byte_le (n : Nat) (x : UInt8) : decide (((x.toNat : Nat) : Int) ≤ ((n : Nat) : Int)) = decide (x.toNat ≤ n) := decide_eq_decide.2 (by omega)
theorem last_eq (a : UInt8) (l : List UInt8) : (a :: l).getLast? = some (byteAt (a :: l) ((l.length : Nat) : Int)) := by
  rw [List.getLast?_eq_getElem?]
  show (a :: l)[l.length + 1 - 1]? = some ((a :: l).getD ((l.length : Nat) : Int).toNat 0)
  rw [Nat.add_sub_cancel, Int.toNat_natCast, List.getD_eq_getElem?_getD, List.getElem?_eq_getElem (show l.length < (a :: l).length by rw [List.length_cons]; omega)]; rfl
theorem drop_last (a : UInt8) (l : List UInt8) : (a :: l).drop l.length = [byteAt (a :: l) ((l.length : Nat) : Int)] := by
  have hlt : l.length < (a :: l).length := by rw [List.length_cons]; omega
  rw [List.drop_eq_getElem_cons hlt, List.drop_of_length_le (by rw [List.length_cons]; omega)]
  show _ = [(a :: l).getD ((l.length : Nat) : Int).toNat 0]
  rw [Int.toNat_natCast, List.getD_eq_getElem?_getD, List.getElem?_eq_getElem hlt]; rfl
theorem a298_eq (s : Str) (h : s.length < big) : a298 s [45] = decide (s.getLast? = some 45) := by
  cases s with
  | nil => rfl
  | cons a l =>
    unfold a298
    rw [lenN_eq]
    have e1 : decide ((((a :: l).length : Nat) : Int) ≥ ((lenN ([45] : List UInt8) : Nat) : Int)) = true := decide_eq_true (by show (1 : Int) ≤ _; rw [List.length_cons]; omega)
    have e2 : (((a :: l).length : Nat) : Int) - ((lenN ([45] : List UInt8) : Nat) : Int) = ((l.length : Nat) : Int) := by show _ - (1 : Int) = _; rw [List.length_cons]; omega
    have e3 : l.length < big := Nat.lt_of_le_of_lt (by rw [List.length_cons]; omega) h
    rw [e1, e2, wrap_small e3, cond_true, Int.toNat_natCast]
    rw [drop_last, last_eq, beqBytes_eq]
    generalize byteAt (a :: l) _ = x
    by_cases hx : x = 45
    · subst hx; rfl
    · rw [decide_eq_false (by simpa using hx)]
      simpa using hx
theorem let_eq (x : UInt8) : (bif (bif decide ((97 : Int) ≤ ((x.toNat : Nat) : Int)) then decide (((x.toNat : Nat) : Int) ≤ 122) else false) then true else (bif decide ((65 : Int) ≤ ((x.toNat : Nat) : Int)) then decide (((x.toNat : Nat) : Int) ≤ 90) else false)) = letB x := by
  have h1 : decide ((97 : Int) ≤ ((x.toNat : Nat) : Int)) = decide (97 ≤ x.toNat) := byte_ge 97 x
  have h2 : decide (((x.toNat : Nat) : Int) ≤ 122) = decide (x.toNat ≤ 122) := byte_le 122 x
  have h3 : decide ((65 : Int) ≤ ((x.toNat : Nat) : Int)) = decide (65 ≤ x.toNat) := byte_ge 65 x
  have h4 : decide (((x.toNat : Nat) : Int) ≤ 90) = decide (x.toNat ≤ 90) := byte_le 90 x
  rw [h1, h2, h3, h4]
  unfold letB
  cases decide (97 ≤ x.toNat) <;> cases decide (x.toNat ≤ 122) <;> cases decide (65 ≤ x.toNat) <;> cases decide (x.toNat ≤ 90) <;> rfl
def g121 (i : Nat) (r : List UInt8) : Bool := match i with
  | 0 => (match r with | [] => true | a :: l => letB a && l.all okC)
  | _ + 1 => r.all okC
theorem f121_eq (s : Str) : f121 s 0 s.length = g121 0 s := by
  refine scan_eq s (f121 s) g121 (fun i => by cases i <;> rfl) fun i m x r hi e ih => ?_
  rw [f121, ih, byteAt_get e, let_eq]
  have h1 : (((x.toNat : Nat) : Int) != 45) = !(decide (x = 45)) := byte_ne x 45
  have h2 : (((x.toNat : Nat) : Int) != 95) = !(decide (x = 95)) := byte_ne x 95
  have h3 : decide (((x.toNat : Nat) : Int) < 48) = !(decide (48 ≤ x.toNat)) := by
    by_cases q : 48 ≤ x.toNat
    · rw [decide_eq_true q, decide_eq_false (by omega)]; rfl
    · rw [decide_eq_false q, decide_eq_true (by omega)]; rfl
  have h4 : decide (((x.toNat : Nat) : Int) > 57) = !(decide (x.toNat ≤ 57)) := by
    by_cases q : x.toNat ≤ 57
    · rw [decide_eq_true q, decide_eq_false (by omega)]; rfl
    · rw [decide_eq_false q, decide_eq_true (by omega)]; rfl
  rw [h1, h2, h3, h4]
  cases i with
  | zero =>
    show _ = (letB x && r.all okC)
    have h5 : (((0 : Nat) : Int) == 0) = true := rfl
    rw [h5]
    show (bif (bif !(letB x) then (bif true then true else _) else false) then false else r.all okC) = _
    cases letB x <;> rfl
  | succ i =>
    show _ = (x :: r).all okC
    have h5 : (((i + 1 : Nat) : Int) == 0) = false := by
      have : ¬ ((i + 1 : Nat) : Int) = 0 := by omega
      simpa using this
    rw [h5, List.all_cons]
    show (bif (bif !(letB x) then (bif false then true else _) else false) then false else r.all okC) = _
    unfold okC isDg
    cases letB x <;> cases decide (x = 45) <;> cases decide (x = 95) <;> cases decide (48 ≤ x.toNat) <;> cases decide (x.toNat ≤ 57) <;> rfl
theorem a121_eq (s : Str) (h : s.length < big) : a121 s = nameC s := by
  unfold a121
  rw [a298_eq s h, lenN_eq, f121_eq]
  cases s with
  | nil => rfl
  | cons a l =>
    unfold nameC
    simp only
    have e1 : decide ((((a :: l).length : Nat) : Int) < 1) = false := decide_eq_false (by rw [List.length_cons]; omega)
    have e2 : decide ((((a :: l).length : Nat) : Int) > 32) = !(decide (l.length < 32)) := by
      by_cases q : l.length < 32
      · rw [decide_eq_true q, decide_eq_false (by rw [List.length_cons]; omega)]; rfl
      · rw [decide_eq_false q, decide_eq_true (by rw [List.length_cons]; omega)]; rfl
    rw [e1, e2]
    show (bif (bif (bif (bif false then true else !(decide (l.length < 32))) then true else decide ((a :: l).getLast? = some 45)) then true else hasDD (a :: l)) then false else (letB a && l.all okC)) = _
    cases decide (l.length < 32) <;> cases decide ((a :: l).getLast? = some 45) <;> cases hasDD (a :: l) <;> cases letB a <;> cases l.all okC <;> rfl
/-! the reference's -/
theorem a302_eq (x : UInt8) : a302 ((x.toNat : Nat) : Int) = (decide (97 ≤ x.toNat) && decide (x.toNat ≤ 122)) := by
  unfold a302
  have h1 : decide (((x.toNat : Nat) : Int) ≥ 97) = decide (97 ≤ x.toNat) := byte_ge 97 x
  have h2 : decide (((x.toNat : Nat) : Int) ≤ 122) = decide (x.toNat ≤ 122) := byte_le 122 x
  rw [h1, h2]
  cases decide (97 ≤ x.toNat) <;> rfl
theorem a303_eq (x : UInt8) : a303 ((x.toNat : Nat) : Int) = (decide (65 ≤ x.toNat) && decide (x.toNat ≤ 90)) := by
  unfold a303
  have h1 : decide (((x.toNat : Nat) : Int) ≥ 65) = decide (65 ≤ x.toNat) := byte_ge 65 x
  have h2 : decide (((x.toNat : Nat) : Int) ≤ 90) = decide (x.toNat ≤ 90) := byte_le 90 x
  rw [h1, h2]
  cases decide (65 ≤ x.toNat) <;> rfl
theorem a304_eq (x : UInt8) : a304 ((x.toNat : Nat) : Int) = isDg x := by
  unfold a304 isDg
  have h1 : decide (((x.toNat : Nat) : Int) ≥ 48) = decide (48 ≤ x.toNat) := byte_ge 48 x
  have h2 : decide (((x.toNat : Nat) : Int) ≤ 57) = decide (x.toNat ≤ 57) := byte_le 57 x
  rw [h1, h2]
  cases decide (48 ≤ x.toNat) <;> rfl
theorem f216_eq (s : Str) (hs : s.length < big) : ∀ (l : List UInt8) (i : Nat), s.drop (i + 1) = l → f216 s i l.length = restR (byteAt s ((i : Nat) : Int)) l
  | [], i, _ => by cases i <;> rfl
  | c :: l, i, hd => by
    have hlt : i + 1 < s.length := by
      refine Nat.lt_of_not_le fun h => ?_
      rw [List.drop_of_length_le h] at hd; cases hd
    have hc : byteAt s ((1 + i : Nat) : Int) = c := by
      rw [List.drop_eq_getElem_cons hlt] at hd
      have : s[i + 1] = c := by injection hd
      show s.getD ((1 + i : Nat) : Int).toNat 0 = c
      rw [Int.toNat_natCast, Nat.add_comm 1 i, List.getD_eq_getElem?_getD, List.getElem?_eq_getElem hlt]; exact this
    have hd2 : s.drop (i + 1 + 1) = l := by
      rw [List.drop_eq_getElem_cons hlt] at hd
      injection hd
    have ih := f216_eq s hs l (i + 1) hd2
    rw [show ((i + 1 : Nat) : Int) = ((1 + i : Nat) : Int) by omega, hc] at ih
    have hw : wrapF .i64 (((1 + i : Nat) : Int) - 1) = ((i : Nat) : Int) := by
      rw [show (((1 + i : Nat) : Int) - 1) = ((i : Nat) : Int) by omega]
      exact wrap_small (by omega)
    show f216 s i (l.length + 1) = _
    rw [f216, ih, hc, hw, a302_eq, a303_eq, a304_eq, restR]
    have h1 : (((c.toNat : Nat) : Int) != 45) = !(decide (c = 45)) := byte_ne c 45
    have h2 : (((c.toNat : Nat) : Int) != 95) = !(decide (c = 95)) := byte_ne c 95
    have h3 : ((((byteAt s ((i : Nat) : Int)).toNat : Nat) : Int) == 45) = decide (byteAt s ((i : Nat) : Int) = 45) := byte_eq _ 45
    rw [h1, h2, h3]
    unfold letB
    cases isDg c <;> cases (decide (97 ≤ c.toNat) && decide (c.toNat ≤ 122)) <;> cases (decide (65 ≤ c.toNat) && decide (c.toNat ≤ 90)) <;> cases decide (c = 95) <;> cases decide (c = 45) <;> cases decide (byteAt s ((i : Nat) : Int) = 45) <;> rfl
theorem a216_eq (s : Str) (h : s.length < big) : a216 s = nameR s := by
  unfold a216
  rw [lenN_eq]
  cases s with
  | nil => rfl
  | cons a l =>
    unfold nameR
    simp only
    have e0 : byteAt (a :: l) 0 = a := rfl
    have hl : l.length < big := Nat.lt_of_le_of_lt (by rw [List.length_cons]; omega) h
    have e1 : (!(a214 (((a :: l).length : Nat) : Int) 1 32)) = !(decide (l.length < 32)) := by
      unfold a214
      rw [decide_eq_true (show (1 : Int) ≤ (((a :: l).length : Nat) : Int) by rw [List.length_cons]; omega)]
      have : decide ((((a :: l).length : Nat) : Int) ≤ 32) = decide (l.length < 32) := decide_eq_decide.2 (by rw [List.length_cons]; omega)
      rw [this]; rfl
    have e2 : wrapF .i64 ((((a :: l).length : Nat) : Int) - 1) = ((l.length : Nat) : Int) := by
      rw [show (((a :: l).length : Nat) : Int) - 1 = ((l.length : Nat) : Int) by rw [List.length_cons]; omega]
      exact wrap_small hl
    have e3 : ((((byteAt (a :: l) ((l.length : Nat) : Int)).toNat : Nat) : Int) == 45) = decide ((a :: l).getLast? = some 45) := by
      refine (byte_eq (byteAt (a :: l) ((l.length : Nat) : Int)) 45).trans ?_
      exact decide_eq_decide.2 (by rw [last_eq, Option.some.injEq])
    have e4 : f216 (a :: l) 0 ((a :: l).length - 1) = restR a l := f216_eq (a :: l) h l 0 rfl
    rw [e0, e1, e2, e3, e4, a302_eq, a303_eq]
    unfold letB
    cases decide (l.length < 32) <;> cases decide ((a :: l).getLast? = some 45) <;> cases (decide (97 ≤ a.toNat) && decide (a.toNat ≤ 122)) <;> cases (decide (65 ≤ a.toNat) && decide (a.toNat ≤ 90)) <;> cases restR a l <;> rfl
end
end Go.Abs
namespace Go.Abs
noncomputable section
open Go
/-! ## For DirectDifferences, no program in sight: the errors of a value -/
theorem bif_t (a b : Bool) : (bif a then true else b) = (a || b) := by cases a <;> rfl
theorem bif_f (a b : Bool) : (bif a then b else false) = (a && b) := by cases a <;> rfl
theorem or_bif {α : Type} (a b : Bool) (x y : α) : (bif (a || b) then x else y) = (bif a then x else bif b then x else y) := by cases a <;> rfl
theorem beq_nil (s : List UInt8) : beqBytes s [] = decide (s = []) := by
  cases s with
  | nil => rfl
  | cons a l => rfl
theorem bne_dec (a b : Int) : (a != b) = !(decide (a = b)) := rfl
theorem ge_nat (i : Nat) : decide (((i : Nat) : Int) ≥ 0) = true := decide_eq_true (by omega)
theorem f208_eq (l : List Str) (h : ∀ x ∈ l, x.length < big) : decide (f208 l 0 l.length ≥ 0) = l.any (fun x => !(nameC x)) := by
  refine scan_eq l (fun i m => decide (f208 l i m ≥ 0)) (fun _ r => r.any (fun x => !(nameC x))) (fun i => by cases i <;> rfl) fun i m x r hi e ih => ?_
  have hx : sAt l i = x := e
  have hm : x ∈ l := by rw [← hx, sAt_get hi]; exact List.getElem_mem hi
  rw [f208, hx, a121_eq x (h x hm), List.any_cons]
  cases nameC x with
  | true => simpa using ih
  | false => exact ge_nat i
theorem f209_eq (l : List Str) (s : Str) : decide (f209 l s 0 l.length ≥ 0) = l.any (fun x => beqBytes x s) := by
  refine scan_eq l (fun i m => decide (f209 l s i m ≥ 0)) (fun _ r => r.any (fun x => beqBytes x s)) (fun i => by cases i <;> rfl) fun i m x r hi e ih => ?_
  have hx : sAt l i = x := e
  have hc : beqBytes s x = beqBytes x s := by rw [beqBytes_eq, beqBytes_eq, Bool.beq_comm]
  rw [f209, hx, List.any_cons, hc]
  cases beqBytes x s with
  | true => exact ge_nat i
  | false => simpa using ih
theorem f217_eq (l : List Str) (s : Str) (k : Nat) (hk : sAt l k = s) : ∀ (m i : Nat), i ≤ k → k < i + m → i + m = l.length → (f217 l s i m != ((k : Nat) : Int)) = ((l.drop i).take (k - i)).any (fun x => beqBytes x s)
  | 0, i, h1, h2, _ => by omega
  | m + 1, i, h1, h2, h3 => by
    have hi : i < l.length := by omega
    rw [f217]
    rcases Nat.lt_or_ge i k with hlt | hge
    · rw [List.drop_eq_getElem_cons hi, show k - i = (k - (i + 1)) + 1 by omega, List.take_succ_cons, List.any_cons, ← f217_eq l s k hk m (i + 1) hlt (by omega) (by omega), sAt_get hi]
      cases beqBytes l[i] s with
      | true =>
        rw [cond_true, Bool.true_or]
        have : ¬ (((i : Nat) : Int) = ((k : Nat) : Int)) := by omega
        simpa using this
      | false => rfl
    · obtain rfl : i = k := by omega
      rw [Nat.sub_self, List.take_zero, hk, show beqBytes s s = true from beqBytes_iff.2 rfl]
      simp
theorem sAt_nil (l : List Str) (i : Nat) : sAt l i = l.getD i [] := rfl
theorem f82_eq (k : Int) (nn : List Str) (ni : List Val) : ∀ (m i : Nat), f82 k nn ni i m = bif (List.range' i m).any (dupAt nn) then 13 else (bif (bif (a119 k).sorted then (!(f125 ni 0 (ni.length - 1))) else false) then 14 else 0)
  | 0, i => by cases i <;> rfl
  | m + 1, i => by
    rw [f82, f82_eq k nn ni m (i + 1), f209_eq, List.range'_succ, List.any_cons]
    show (bif (nn.take i).any (fun x => beqBytes x (sAt nn i)) then 13 else _) = bif (dupAt nn i || _) then 13 else _
    unfold dupAt
    rw [sAt_nil]
    cases (nn.take i).any (fun x => beqBytes x (nn.getD i [])) <;> rfl
theorem f127b_eq (k n e : Int) (s : Str) (nn : List Str) (ni : List Val) : ∀ (m i : Nat), i + m = nn.length → f127b k n e s nn ni i m = bif (List.range' i m).any (dupAt nn) then 13 else f127c k n e s nn ni 0 (ni.length - 1)
  | 0, i, _ => by cases i <;> rfl
  | m + 1, i, h => by
    rw [f127b, f127b_eq k n e s nn ni m (i + 1) (by omega), f217_eq nn (sAt nn i) i rfl nn.length 0 (Nat.zero_le i) (by omega) (Nat.zero_add _), List.range'_succ, List.any_cons]
    show (bif (nn.take (i - 0)).any (fun x => beqBytes x (sAt nn i)) then 13 else _) = bif (dupAt nn i || _) then 13 else _
    unfold dupAt
    rw [sAt_nil, Nat.sub_zero]
    cases (nn.take i).any (fun x => beqBytes x (nn.getD i [])) <;> rfl
theorem f127a_eq (k n e : Int) (s : Str) (nn : List Str) (ni : List Val) (h : ∀ x ∈ nn, x.length < big) : f127a k n e s nn ni 0 nn.length = bif nn.any (fun x => !(nameR x)) then 7 else f127b k n e s nn ni 0 nn.length := by
  refine scan_eq nn (f127a k n e s nn ni) (fun _ r => bif r.any (fun x => !(nameR x)) then 7 else f127b k n e s nn ni 0 nn.length) (fun i => by cases i <;> rfl) fun i m x r hi e' ih => ?_
  have hx : sAt nn i = x := e'
  have hm : x ∈ nn := by rw [← hx, sAt_get hi]; exact List.getElem_mem hi
  rw [f127a, hx, a216_eq x (h x hm), List.any_cons, ih]
  cases nameR x <;> rfl
theorem cmpV_m6 (a b : Val) : cmpV (mk6 a.kind a.n a.e a.s a.names a.items) (mk6 b.kind b.n b.e b.s b.names b.items) = cmpV a b := by
  cases a; cases b
  unfold mk6
  rw [cmpV, cmpV]
  rfl
theorem f127c_eq (k n e : Int) (s : Str) (nn : List Str) (ni : List Val) (hl : ni.length < big) (hk : (k == 11) = true) : ∀ (m i : Nat), i + m = ni.length - 1 → f127c k n e s nn ni i m = bif (List.range' i m).any (fallAt ni) then 14 else 0
  | 0, i, _ => by cases i <;> rfl
  | m + 1, i, h => by
    have hw : wrapF .i64 (((1 + i : Nat) : Int) - 1) = ((i : Nat) : Int) := by
      rw [show (((1 + i : Nat) : Int) - 1) = ((i : Nat) : Int) by omega]
      exact wrap_small (by omega)
    rw [f127c, hk, cond_true, hw, Int.toNat_natCast, cmpV_m6, f127c_eq k n e s nn ni hl hk m (i + 1) (by omega), List.range'_succ, List.any_cons]
    unfold fallAt vAt
    rw [Nat.add_comm 1 i]
    cases decide (cmpV (ni.getD i default) (ni.getD (i + 1) default) > 0) <;> rfl
theorem f127c_no (k n e : Int) (s : Str) (nn : List Str) (ni : List Val) (hk : (k == 11) = false) (m i : Nat) : f127c k n e s nn ni i m = 0 := by
  cases m with
  | zero => cases i <;> rfl
  | succ m => rw [f127c, hk]; rfl
theorem f125_eq (l : List Val) (hl : l.length < big) : ∀ (m i : Nat), i + m = l.length - 1 → 0 < l.length → f125 l i m = !((List.range m).any (fallAt l))
  | 0, i, _, _ => by cases i <;> rfl
  | m + 1, i, h, h0 => by
    have e1 : cD l i = ((m + 1 : Nat) : Int) := by unfold cD; omega
    have e2 : wrapF .i64 (cD l i - 1) = ((m : Nat) : Int) := by
      rw [e1, show (((m + 1 : Nat) : Int) - 1) = ((m : Nat) : Int) by omega]
      exact wrap_small (by omega)
    rw [f125, e2, e1, Int.toNat_natCast, Int.toNat_natCast, f125_eq l hl m (i + 1) (by omega) h0, List.range_succ, List.any_append, List.any_cons, List.any_nil, Bool.or_false]
    have e3 : decide (cmpV (m6 (vAt l (m + 1))) (m6 (vAt l m)) < 0) = fallAt l m := by
      unfold m6
      rw [cmpV_m6, sort_same]
      rfl
    rw [e3]
    cases fallAt l m <;> cases (List.range m).any (fallAt l) <;> rfl
theorem f125_all (l : List Val) (hl : l.length < big) : (!(f125 l 0 (l.length - 1))) = fallB l := by
  unfold fallB
  cases l with
  | nil => rfl
  | cons a l =>
    rw [f125_eq (a :: l) hl _ 0 (Nat.zero_add _) (by rw [List.length_cons]; omega), Bool.not_not]
theorem kinds (k : Int) : k = 1 ∨ k = 2 ∨ k = 3 ∨ k = 4 ∨ k = 5 ∨ k = 6 ∨ k = 9 ∨ k = 10 ∨ k = 11 ∨ k = 12 ∨ k = 14 ∨ (k < 1 ∨ k = 7 ∨ k = 8 ∨ k = 13 ∨ 14 < k) := by omega
theorem a119_eq (k : Int) : a119 k = ⟨(shp k).low, (shp k).high, (shp k).text, (shp k).names, (shp k).items, (((shp k).most : Nat) : Int), (shp k).one, (shp k).sorted, (shp k).inside, (shp k).ok⟩ := by
  rcases kinds k with rfl | rfl | rfl | rfl | rfl | rfl | rfl | rfl | rfl | rfl | rfl | h
  iterate 11 rfl
  have hf : ∀ j : Int, k ≠ j → (k == j) = false := fun j hj => by simpa using hj
  unfold a119 shp
  rw [hf 1 (by omega), hf 2 (by omega), hf 3 (by omega), hf 4 (by omega), hf 5 (by omega), hf 6 (by omega), hf 9 (by omega), hf 10 (by omega), hf 11 (by omega), hf 12 (by omega), hf 14 (by omega)]
  rw [decide_eq_false (show ¬ k = 1 by omega), decide_eq_false (show ¬ k = 2 by omega), decide_eq_false (show ¬ k = 3 by omega), decide_eq_false (show ¬ k = 4 by omega), decide_eq_false (show ¬ k = 5 by omega), decide_eq_false (show ¬ k = 6 by omega), decide_eq_false (show ¬ k = 9 by omega), decide_eq_false (show ¬ k = 10 by omega), decide_eq_false (show ¬ k = 11 by omega), decide_eq_false (show ¬ k = 12 by omega), decide_eq_false (show ¬ k = 14 by omega)]
  rfl
theorem a82_eq (k n e : Int) (s : Str) (nn : List Str) (ni : List Val) (h : (mk6 k n e s nn ni).ok) : a82 k n e s nn ni = ownC k n e s nn ni := by
  obtain ⟨h1, h2, h3, h4, h5⟩ := ok_of h
  unfold a82 ownC
  rw [lenN_eq, f120_eq, a121_eq s h1, f208_eq nn h5, f82_eq, f125_all ni h3, a119_eq]
  simp only [beq_nil, bif_t, bif_f, or_bif]
  have e1 : (e != 0) = decide (e ≠ 0) := by rw [bne_dec]; exact (decide_not).symm
  have e2 : decide (((nn.length : Nat) : Int) > 0) = decide (0 < nn.length) := decide_eq_decide.2 (by omega)
  have e3 : decide (((ni.length : Nat) : Int) > 0) = decide (0 < ni.length) := decide_eq_decide.2 (by omega)
  have e4 : (((nn.length : Nat) : Int) != ((ni.length : Nat) : Int)) = !(decide (nn.length = ni.length)) := by
    rw [bne_dec]; exact congrArg _ (decide_eq_decide.2 (by omega))
  have e5 : (((ni.length : Nat) : Int) != 1) = !(decide (ni.length = 1)) := by
    rw [bne_dec]; exact congrArg _ (decide_eq_decide.2 (by omega))
  have e6 : decide (((s.length : Nat) : Int) > 200) = decide (200 < s.length) := decide_eq_decide.2 (by omega)
  have e7 : decide (((ni.length : Nat) : Int) > (((shp k).most : Nat) : Int)) = decide ((shp k).most < ni.length) := decide_eq_decide.2 (by omega)
  have e8 : decide (n > (shp k).high) = decide ((shp k).high < n) := rfl
  rw [e1, e2, e3, e4, e5, e6, e7, e8]
  have e9 : (k == 3) = decide (k = 3) := rfl
  have e10 : dupB nn = (List.range' 0 nn.length).any (dupAt nn) := by unfold dupB; rw [List.range_eq_range']
  rw [e9, e10]
  cases s.any (charBad k) <;> rfl
theorem a214_eq (a b c : Int) : a214 a b c = win a b c := by
  unfold a214 win; rw [bif_f]
theorem a127_eq (k n e : Int) (s : Str) (nn : List Str) (ni : List Val) (h : (mk6 k n e s nn ni).ok) : a127 k n e s nn ni = ownR k n e s nn ni := by
  obtain ⟨h1, h2, h3, h4, h5⟩ := ok_of h
  have e10 : dupB nn = (List.range' 0 nn.length).any (dupAt nn) := by unfold dupB; rw [List.range_eq_range']
  have e11 : f127c k n e s nn ni 0 (ni.length - 1) = bif (decide (k = 11) && fallB ni) then 14 else 0 := by
    cases hk : (k == 11) with
    | true =>
      rw [f127c_eq k n e s nn ni h3 hk _ 0 (Nat.zero_add _)]
      have : decide (k = 11) = true := hk
      rw [this, Bool.true_and]
      unfold fallB
      rw [List.range_eq_range']
    | false =>
      rw [f127c_no k n e s nn ni hk]
      have : decide (k = 11) = false := hk
      rw [this]; rfl
  unfold a127 ownR a213
  rw [lenN_eq, f215_eq, a216_eq s h1, f127a_eq k n e s nn ni h5, f127b_eq k n e s nn ni nn.length 0 (Nat.zero_add _), e11, ← e10]
  simp only [beq_nil, bif_t, bif_f, a214_eq, Bool.not_not, Bool.or_assoc]
  have e1 : (e != 0) = decide (e ≠ 0) := by rw [bne_dec]; exact (decide_not).symm
  have e1' : (n != 0) = decide (n ≠ 0) := by rw [bne_dec]; exact (decide_not).symm
  have e2 : decide (((nn.length : Nat) : Int) > 0) = decide (0 < nn.length) := decide_eq_decide.2 (by omega)
  have e3 : decide (((ni.length : Nat) : Int) > 0) = decide (0 < ni.length) := decide_eq_decide.2 (by omega)
  have e4 : (((nn.length : Nat) : Int) != ((ni.length : Nat) : Int)) = !(decide (nn.length = ni.length)) := by
    rw [bne_dec]; exact congrArg _ (decide_eq_decide.2 (by omega))
  have e5 : (((ni.length : Nat) : Int) != 1) = !(decide (ni.length = 1)) := by
    rw [bne_dec]; exact congrArg _ (decide_eq_decide.2 (by omega))
  have e6 : decide (((s.length : Nat) : Int) > 200) = decide (200 < s.length) := decide_eq_decide.2 (by omega)
  have e7 : decide (((ni.length : Nat) : Int) > 16) = decide (16 < ni.length) := decide_eq_decide.2 (by omega)
  have e8 : decide (((ni.length : Nat) : Int) > 40) = decide (40 < ni.length) := decide_eq_decide.2 (by omega)
  rw [e1, e1', e2, e3, e4, e5, e6, e7, e8]
  rfl
end
end Go.Abs
namespace Go.Abs
noncomputable section
open Go
/-! ## For DirectDifferences, no program in sight: the law -/
mutual
theorem plV_eq : ∀ v : Val, v.ok → plV v = plErrC v
  | .mk k n e s nn names ni items, h => by
    have h' : (mk6 k n e s names items).ok := by unfold mk6; rw [Val.ok] at h ⊢; exact h
    rw [Val.ok] at h
    rw [plV, plErrC, a82_eq k n e s names items h', plL_eq items h.2.2.2.1]
theorem plL_eq : ∀ l : List Val, okL l → plL l = plErrCL l
  | [], _ => by rw [plL, plErrCL]
  | v :: l, h => by
    rw [okL] at h
    rw [plL, plErrCL, plV_eq v h.1, plL_eq l h.2]
end
mutual
theorem plW_eq : ∀ v : Val, v.ok → plW v = plErrR v
  | .mk k n e s nn names ni items, h => by
    have h' : (mk6 k n e s names items).ok := by unfold mk6; rw [Val.ok] at h ⊢; exact h
    rw [Val.ok] at h
    rw [plW, plErrR, a127_eq k n e s names items h', plWL_eq items h.2.2.2.1]
theorem plWL_eq : ∀ l : List Val, okL l → plWL l = plErrRL l
  | [], _ => by rw [plWL, plErrRL]
  | v :: l, h => by
    rw [okL] at h
    rw [plWL, plErrRL, plW_eq v h.1, plWL_eq l h.2]
end
theorem a33_eq {k n e : Int} {s : Str} {nn : List Str} {ni : List Val} (h : (mk6 k n e s nn ni).ok) : a33 k n e s nn ni = plainC (mk6 k n e s nn ni) := by
  unfold a33 plainC; rw [plV_eq _ h]
theorem a56_eq {k n e : Int} {s : Str} {nn : List Str} {ni : List Val} (h : (mk6 k n e s nn ni).ok) : a56 k n e s nn ni = plainC (mk6 k n e s nn ni) := by
  unfold a56; rw [plW_eq _ h, plain_same]; rfl
/-- an event's value that is neither none nor plain -/
def badV6 (v : Val) : Bool := bif v.kind != 0 then !(a56 v.kind v.n v.e v.s v.names v.items == 0) else !(a23 v.n v.e v.s v.names v.items)
theorem zero_bad {k n e : Int} {s : Str} {nn : List Str} {ni : List Val} (hk : k = 0) : (plainC (mk6 k n e s nn ni) != 0) = true := by
  subst hk
  unfold plainC
  cases (fitV (mk6 0 n e s nn ni) 8 120).2 with
  | false => rfl
  | true =>
    rw [Bool.not_true, cond_false]
    unfold mk6
    rw [plErrC]
    have : ownC 0 n e s nn ni = 4 := rfl
    rw [this]; rfl
theorem a31_bad {v : Val} (h : v.ok) : a31 v.kind v.n v.e v.s v.names v.items = badV6 v := by
  have h' : (mk6 v.kind v.n v.e v.s v.names v.items).ok := by cases v; unfold mk6; rw [Val.ok] at h ⊢; exact h
  unfold a31 badV6
  rw [a33_eq h', a56_eq h']
  have e0 : a32 v.kind v.n v.e v.s v.names v.items = ((v.kind == 0) && a23 v.n v.e v.s v.names v.items) := by
    unfold a32 a23
    simp only [bif_f]
    cases (v.kind == 0) <;> rfl
  rw [e0]
  cases hk : (v.kind == 0) with
  | true =>
    have hk2 : v.kind = 0 := eq_of_beq hk
    have hk3 : (v.kind != 0) = false := by rw [bne, hk]; rfl
    rw [zero_bad hk2, hk3, Bool.true_and, cond_false]
    cases a23 v.n v.e v.s v.names v.items <;> rfl
  | false =>
    have hk3 : (v.kind != 0) = true := by rw [bne, hk]; rfl
    rw [hk3, Bool.false_and, cond_true]
    rfl
def badE (x : Mev) : Bool := badV6 x.value
theorem f8_eq (l : List Mev) : f8 l 0 l.length = bif l.any badE then 2 else 0 := by
  refine scan_eq l (f8 l) (fun _ r => bif r.any badE then 2 else 0) (fun i => by cases i <;> rfl) fun i m x r hi e ih => ?_
  have hx : eAt l i = x := e
  have h1 : bad8 l i = badE x := by unfold bad8; rw [hx]; rfl
  rw [f8, h1, ih, List.any_cons]
  cases badE x <;> rfl
theorem f53_eq (l : List Mev) (h : evOk l) : decide (f53 l 0 l.length ≥ 0) = l.any badE := by
  refine scan_eq l (fun i m => decide (f53 l i m ≥ 0)) (fun _ r => r.any badE) (fun i => by cases i <;> rfl) fun i m x r hi e ih => ?_
  have hx : eAt l i = x := e
  have h1 := a31_bad (h i hi)
  rw [f53, h1, List.any_cons]
  show decide ((bif badV6 (eAt l i).value then _ else _) ≥ 0) = (badV6 x.value || r.any badE)
  rw [hx]
  cases badV6 x.value with
  | true => exact ge_nat i
  | false => simpa using ih
theorem a8_eq (l k : List Mev) (hl : evOk l) (hk : evOk k) : a8 l k = bif a18 l || a18 k then 2 else 0 := by
  unfold a8 a18
  rw [f53_eq l hl, f53_eq k hk, ← List.length_append, f8_eq, List.any_append]
  simp only [bif_t]
  cases decide (((l.length : Nat) : Int) > 2000) <;> cases decide (((k.length : Nat) : Int) > 2000) <;> cases l.any badE <;> cases k.any badE <;> rfl
theorem eqV_m6 (a b : Val) : eqV (mk6 a.kind a.n a.e a.s a.names a.items) (mk6 b.kind b.n b.e b.s b.names b.items) = (cmpV (mk6 a.kind a.n a.e a.s a.names a.items) (mk6 b.kind b.n b.e b.s b.names b.items) == 0) := eqV_cmp _ _
theorem f69 (l k : List Mev) : ∀ (m i : Nat), i + m = Nat.min l.length k.length → f6 l k i m = (bif f9 l k i (l.length - i) == -1 then (0, 23) else (f9 l k i (l.length - i), 0))
  | 0, i, h => by
    have hz : f6 l k i 0 = (bif (((l.length : Nat) : Int) == ((k.length : Nat) : Int)) then (0, 23) else ((bif decide (((k.length : Nat) : Int) < ((l.length : Nat) : Int)) then ((k.length : Nat) : Int) else ((l.length : Nat) : Int)), 0)) := by cases i <;> rfl
    rw [hz]
    have hm : i = Nat.min l.length k.length := by omega
    have h9 : f9 l k i (l.length - i) = (bif (((l.length : Nat) : Int) == ((k.length : Nat) : Int)) then (-1) else (bif decide (((k.length : Nat) : Int) < ((l.length : Nat) : Int)) then ((k.length : Nat) : Int) else ((l.length : Nat) : Int))) := by
      cases hd : l.length - i with
      | zero => cases i <;> rfl
      | succ q =>
        have hik : i = k.length := by
          have : Nat.min l.length k.length = k.length := by rw [hm] at hd; exact Nat.min_eq_right (by
            rcases Nat.le_total l.length k.length with h1 | h1
            · rw [show Nat.min l.length k.length = l.length from Nat.min_eq_left h1] at hd; omega
            · exact h1)
          omega
        rw [f9, show ltB i k.length = false from decide_eq_false (by omega)]
        rfl
    rw [h9]
    cases hq : (((l.length : Nat) : Int) == ((k.length : Nat) : Int)) with
    | true => rfl
    | false =>
      have hn : ((bif decide (((k.length : Nat) : Int) < ((l.length : Nat) : Int)) then ((k.length : Nat) : Int) else ((l.length : Nat) : Int)) == -1) = false := by
        cases decide (((k.length : Nat) : Int) < ((l.length : Nat) : Int)) with
        | true => rw [cond_true]; simp
        | false => rw [cond_false]; simp
      simp only [cond_false]
      rw [hn]; rfl
  | m + 1, i, h => by
    have hl : i < l.length := by have := Nat.min_le_left l.length k.length; show i < l.length; have h2 : i + (m + 1) ≤ l.length := by rw [h]; exact this
                                 omega
    have hk : i < k.length := by have := Nat.min_le_right l.length k.length; have h2 : i + (m + 1) ≤ k.length := by rw [h]; exact this
                                 omega
    have ih := f69 l k m (i + 1) (by omega)
    rw [f6, ih, show l.length - i = (l.length - (i + 1)) + 1 by omega, f9, show ltB i k.length = true from decide_eq_true (by omega), cond_true]
    unfold a24 a38
    rw [eqV_m6]
    simp only [bif_t, bif_f, bne]
    cases ((eAt l i).comp == (eAt k i).comp) <;> cases ((eAt l i).kind == (eAt k i).kind) <;> cases (beqBytes (eAt l i).text (eAt k i).text) <;> cases (beqBytes (eAt l i).name (eAt k i).name) <;> cases ((eAt l i).other == (eAt k i).other) <;> cases (cmpV (mk6 (eAt l i).value.kind (eAt l i).value.n (eAt l i).value.e (eAt l i).value.s (eAt l i).value.names (eAt l i).value.items) (mk6 (eAt k i).value.kind (eAt k i).value.n (eAt k i).value.e (eAt k i).value.s (eAt k i).value.names (eAt k i).value.items) == 0) <;> first
      | rfl
      | (have : ¬ ((i : Nat) : Int) = -1 := by omega
         have h3 : (((i : Nat) : Int) == -1) = false := by simpa using this
         simp [h3])
/-- the law's answer is true -/
theorem law_plain (l k : List Mev) (hl : evOk l) (hk : evOk k) :
    (bif a8 l k != 0 then (a6 l k).2 == a8 l k && (a6 l k).1 == 0 else bif a9 l k == -1 then (a6 l k).2 == 23 && (a6 l k).1 == 0 else (a6 l k).2 == 0 && (a6 l k).1 == a9 l k) = true := by
  rw [a8_eq l k hl hk]
  have h9 : f6 l k 0 (Nat.min l.length k.length) = (bif a9 l k == -1 then (0, 23) else (a9 l k, 0)) := by
    have := f69 l k (Nat.min l.length k.length) 0 (Nat.zero_add _)
    rwa [Nat.sub_zero] at this
  unfold a6
  rw [h9]
  simp only [bif_t]
  cases a18 l || a18 k with
  | true => rfl
  | false =>
    simp only [cond_false]
    cases hq : a9 l k == -1 with
    | true => rfl
    | false => simp
theorem a3_true (l k : List Mev) (hl : evOk l) (hk : evOk k) : a3 l k = true := by
  have h := law_plain l k hl hk
  unfold a3
  simp only [bif_f] at h ⊢
  rw [h]
  cases (bif !(f5 l 0 l.length) then true else !(f5 k 0 k.length)) <;> rfl
theorem f3_true (hA : RsOk r63) {ch : List Int} {ev : List Mev} {vd : List Int} {st : Int} {ch2 : List Int} {ev2 : List Mev} {vd2 : List Int} {st2 : Int} (hP : RunOk ch ev vd) (hQ : RunOk ch2 ev2 vd2) : ∀ h, CallOk CB 3 [.agg [.slT .int ch false, .slT .event ev false, .slT .int vd false, .int .i64 st], .agg [.slT .int ch2 false, .slT .event ev2 false, .slT .int vd2 false, .int .i64 st2]] h none (.val (gB true) h none) :=
  f3_w hA ch false ev false vd false st ch2 false ev2 false vd2 false st2 hP hQ (a3_true ev ev2 hP.ok hQ.ok)
end
end Go.Abs
