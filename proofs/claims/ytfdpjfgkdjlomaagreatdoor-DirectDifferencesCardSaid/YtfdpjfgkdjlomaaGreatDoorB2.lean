/- A part of the proof of DirectDifferences: see the last text of this claim. -/
import Derived.Test.YtfdpjfgkdjlomaaGreatDoorB1
namespace Go.Abs
noncomputable section
open Go Go.Proofs
def g81 (p : Int × Bool) : AV × List AV := (.bool p.2, [.int .i64 p.1])
def hd81 (B : St) (i : Nat) (a : Int × Nat) : St := { n := B.n, tm := B.tm.put 28 (.int .i64 ((i : Nat) : Int)), h := B.h.set 0 (bk 0 178 true a.2 [.int .i64 a.1]), ds := B.ds, pn := B.pn }
def six (v : Val) : AV := .agg [.int .i64 v.kind, .int .i64 v.n, .int .i64 v.e, .str v.s, .slT .str v.names false, .slT .val v.items false]
theorem fitV_6 (v : Val) (lv z : Int) : fitV v lv z = fitV (mk6 v.kind v.n v.e v.s v.names v.items) lv z := by cases v; unfold mk6; rw [fitV, fitV]; rfl
theorem fit_eq (k n e : Int) (s : Str) (nn : List Str) (ni : List Val) (lv z : Int) : fitV (mk6 k n e s nn ni) lv z = bif (bif decide (wrapF .i64 (z - 1) < 0) then true else decide (lv < 1)) then (wrapF .i64 (z - 1), false) else fitL ni (wrapF .i64 (lv - 1)) (wrapF .i64 (z - 1)) := by
  unfold mk6
  rw [fitV]
  cases decide (wrapF .i64 (z - 1) < 0) <;> rfl
theorem drop_at {ni : List Val} {i : Nat} (h : i < ni.length) : ni.drop i = vAt ni i :: ni.drop (i + 1) := by rw [List.drop_eq_getElem_cons h, vAt_get h]
theorem big_le {n : Nat} (h : n < big) : n ≤ 9223372036854775807 := by unfold big at h; omega
theorem f81_v (m : Nat) (k n e : Int) (s : Str) (nn : List Str) (x : Bool) (ni : List Val) (y : Bool) (lv z : Int) (hl : ni.length < big)
    (ih : ∀ i, i < ni.length → ∀ (a : Int) {j g ver : Nat} {h : Heap}, h.get j = some (bk g 178 true ver [.int .i64 a]) → (fns (Cs r32) (m + 1)).call 81 [.ptrO j 0, six (vAt ni i), .int .i64 (wrapF .i64 (lv - 1))] h none = some (.val (.bool (fitV (vAt ni i) (wrapF .i64 (lv - 1)) a).2) (h.set j (bk g 178 true (Nat.succ ver) [.int .i64 (fitV (vAt ni i) (wrapF .i64 (lv - 1)) a).1])) none))
    {j g ver : Nat} {h : Heap} (hg : h.get j = some (bk g 178 true ver [.int .i64 z])) :
    (fns (Cs r32) (m + 2)).call 81 [.ptrO j 0, .agg [.int .i64 k, .int .i64 n, .int .i64 e, .str s, .slT .str nn x, .slT .val ni y], .int .i64 lv] h none = some (.val (.bool (fitV (mk6 k n e s nn ni) lv z).2) (h.set j (bk g 178 true (Nat.succ ver) [.int .i64 (fitV (mk6 k n e s nn ni) lv z).1])) none) :=
  ownS (n := m + 1) (p := g81 (fitV (mk6 k n e s nn ni) lv z)) Tryz.func81 (hg := hg) <| K.e (congrArg g81 (fit_eq k n e s nn ni lv z)) <| K.g fun _ => K.z g81 (fun _ => K.ro) (fun _ =>
    K.l ni.length hd81 (fun _ _ => True) (fun i a => g81 (fitL (ni.drop i) (wrapF .i64 (lv - 1)) a.1)) (wrapF .i64 (z - 1), 1) hl trivial fun i a Rn N hi _ => by
      rcases Nat.lt_or_ge i ni.length with hlt | hge
      · have e1 : fitL (ni.drop i) (wrapF .i64 (lv - 1)) a.1 = bif !(fitV (vAt ni i) (wrapF .i64 (lv - 1)) a.1).2 then ((fitV (vAt ni i) (wrapF .i64 (lv - 1)) a.1).1, false) else fitL (ni.drop (i + 1)) (wrapF .i64 (lv - 1)) (fitV (vAt ni i) (wrapF .i64 (lv - 1)) a.1).1 := by rw [drop_at hlt, fitL]
        exact K.e (congrArg g81 e1) <| K.w1 hlt <| K.i (True ∧ Ix ((i : Nat) : Int) ni) ⟨trivial, ix hlt⟩ fun _ => K.co (j := 0) (g := 0) (ver := a.2) (fun h hg => ih i hlt a.1 hg) <|
          K.z g81 (fun _ => K.ro) (fun _ => K.p 28 (congrArg (AV.int .i64) (wrap_succ hlt (big_le hl))) <| K.n N ((fitV (vAt ni i) (wrapF .i64 (lv - 1)) a.1).1, a.2 + 1) hlt trivial)
      · obtain rfl : i = ni.length := by omega
        have e1 : fitL (ni.drop ni.length) (wrapF .i64 (lv - 1)) a.1 = (a.1, true) := by rw [List.drop_length, fitL]
        exact K.e (congrArg g81 e1) <| K.w0 ni.length <| K.ro)
theorem f81_c : ∀ d (v : Val), v.dep ≤ d → v.ok → ∀ m, d ≤ m → ∀ (lv z : Int) {j g ver : Nat} {h : Heap}, h.get j = some (bk g 178 true ver [.int .i64 z]) →
    (fns (Cs r32) (m + 2)).call 81 [.ptrO j 0, six v, .int .i64 lv] h none = some (.val (.bool (fitV v lv z).2) (h.set j (bk g 178 true (Nat.succ ver) [.int .i64 (fitV v lv z).1])) none)
  | 0, v, hd, _, _, _, _, _, _, _, _, _, _ => by cases v; rw [Val.dep] at hd; omega
  | d + 1, v, hd, ho, m, hm, lv, z, j, g, ver, h, hg => by
    obtain ⟨m, rfl⟩ : ∃ q, m = q + 1 := ⟨m - 1, by omega⟩
    have o := ok_fields ho
    rw [fitV_6]
    refine f81_v (m + 1) _ _ _ _ _ _ _ _ _ _ o.2.2.1 (fun i hi a j g ver h hg => ?_) hg
    refine f81_c d (vAt v.items i) ?_ (okL_at o.2.2.2.1 hi) m (by omega) _ _ hg
    have : (vAt v.items i).dep ≤ depL v.items := depL_at hi
    have e : v.dep = depL v.items + 1 := by cases v; rw [Val.dep]; rfl
    omega
theorem f54_w (k n e : Int) (s : Str) (nn : List Str) (x : Bool) (ni : List Val) (y : Bool) (hP : (mk6 k n e s nn ni).ok) : ∀ h, CallOk CB 54 [.agg [.int .i64 k, .int .i64 n, .int .i64 e, .str s, .slT .str nn x, .slT .val ni y]] h none (.val (gB ((fitV (mk6 k n e s nn ni) 8 120).2)) h none) :=
  pureN r32_ok (depL ni + 3) Tryz.func54 <| K.co (j := 1) (g := 1) (ver := 1) (fun h hg => f81_v (depL ni + 1) k n e s nn x ni y 8 120 (ok_of hP).2.2.1 (fun i hi a j g ver h hg => f81_c _ (vAt ni i) (depL_at hi) (okL_at (ok_of hP).2.2.2.1 hi) (depL ni) (Nat.le_refl _) _ _ hg) hg) <| K.r
def r33 : RS := addS r32 54 fun args => match args with | [.agg [.int .i64 k, .int .i64 n, .int .i64 e, .str s, .slT .str nn _, .slT .val ni _]] => some (gB ((fitV (mk6 k n e s nn ni) 8 120).2), some ((mk6 k n e s nn ni).ok)) | _ => none
theorem r33_ok : RsOk r33 := RsOk.add r32_ok 54 fun _ _ _ e ho h => by
  split at e
  · cases e; exact f54_w _ _ _ _ _ _ _ _ ho h
  · cases e
end
end Go.Abs
namespace Go.Abs
noncomputable section
open Go Go.Proofs
mutual
/-- the first error of a value and of those within it, the program's -/
def plV : Val → Int
  | .mk k n e s _ names _ items => bif a82 k n e s names items != 0 then a82 k n e s names items else plL items
def plL : List Val → Int
  | [] => 0
  | v :: l => bif plV v != 0 then plV v else plL l
end
theorem plV_6 (v : Val) : plV (mk6 v.kind v.n v.e v.s v.names v.items) = plV v := by cases v; unfold mk6; rw [plV, plV]; rfl
def s55 : List AV → Option AV := fun args => match args with | [.agg [.int .i64 k, .int .i64 n, .int .i64 e, .str s, .slT .str nn _, .slT .val ni _]] => some (gI (plV (mk6 k n e s nn ni))) | _ => none
def q55 : RS := addS r33 55 (selfS 55 s55)
theorem q55_ok : RsOk q55 := r33_ok.add 55 selfS_ok
/-- it is so, of values that stand in a list -/
def Ok55 (a : Val) : Prop := ∀ h, CallOk CB 55 [.agg [.int .i64 a.kind, .int .i64 a.n, .int .i64 a.e, .str a.s, .slT .str a.names false, .slT .val a.items false]] h none (.val (gI (plV (mk6 a.kind a.n a.e a.s a.names a.items))) h none)
def f55 (ni : List Val) : Nat → Nat → Int
  | _, 0 => 0
  | i, rr + 1 => (bif ((plV (mk6 ((vAt ni i).kind) ((vAt ni i).n) ((vAt ni i).e) ((vAt ni i).s) ((vAt ni i).names) ((vAt ni i).items))) != 0) then plV (mk6 ((vAt ni i).kind) ((vAt ni i).n) ((vAt ni i).e) ((vAt ni i).s) ((vAt ni i).names) ((vAt ni i).items)) else f55 ni (i + 1) rr)
theorem f55l_eq (ni : List Val) : f55 ni 0 ni.length = plL ni := by
  refine scan_eq ni (f55 ni) (fun _ => plL) (fun i => by show (0 : Int) = _; rw [plL]) (fun i m x r hi hx ih => ?_)
  show (bif plV (mk6 (vAt ni i).kind (vAt ni i).n (vAt ni i).e (vAt ni i).s (vAt ni i).names (vAt ni i).items) != 0 then plV (mk6 (vAt ni i).kind (vAt ni i).n (vAt ni i).e (vAt ni i).s (vAt ni i).names (vAt ni i).items) else f55 ni (i + 1) m) = plL (x :: r)
  have e1 : vAt ni i = x := hx
  rw [plV_6, ih, e1, plL]
theorem f55_eq (k n e : Int) (s : Str) (nn : List Str) (ni : List Val) : plV (mk6 k n e s nn ni) = bif a82 k n e s nn ni != 0 then a82 k n e s nn ni else f55 ni 0 ni.length := by
  rw [f55l_eq]; unfold mk6; rw [plV]
theorem f55_v (k : Int) (n : Int) (e : Int) (s : Str) (nn : List Str) (x : Bool) (ni : List Val) (y : Bool) (hP : (mk6 k n e s nn ni).ok ∧ ∀ i, i < ni.length → Ok55 (vAt ni i)) : ∀ h, CallOk CB 55 [.agg [.int .i64 k, .int .i64 n, .int .i64 e, .str s, .slT .str nn x, .slT .val ni y]] h none (.val (gI (plV (mk6 k n e s nn ni))) h none) :=
  Classical.byContradiction fun hN => hN (pureS (hs := specOf_off hN) q55_ok Tryz.func55 <| K.e (congrArg gI (f55_eq k n e s nn ni)) <| K.i (True ∧ (mk6 k n e s nn ni).ok) ⟨trivial, hP.1⟩ fun _ => K.z gI (fun _ => K.r) (fun _ => K.lc gI 15 ni.length (f55 ni) (ok_of hP.1).2.2.1 (fun i _ N0 hi0 => K.w1 hi0 <| K.i (True ∧ Ix ((i : Nat) : Int) ni) ⟨trivial, ix hi0⟩ fun _ => K.i (True ∧ ∀ h, CallOk CB 55 [.agg [.int .i64 ((vAt ni i).kind), .int .i64 ((vAt ni i).n), .int .i64 ((vAt ni i).e), .str ((vAt ni i).s), .slT .str ((vAt ni i).names) false, .slT .val ((vAt ni i).items) false]] h none (.val (gI (plV (mk6 ((vAt ni i).kind) ((vAt ni i).n) ((vAt ni i).e) ((vAt ni i).s) ((vAt ni i).names) ((vAt ni i).items)))) h none)) ⟨trivial, hP.2 i hi0⟩ fun _ => K.z gI (fun _ => K.r) (fun _ => K.nc 15 N0 (ok_of hP.1).2.2.1 hi0)) (fun _ => K.w0 ni.length <| K.r)))
theorem f55_w (k : Int) (n : Int) (e : Int) (s : Str) (nn : List Str) (x : Bool) (ni : List Val) (y : Bool) (hP : (mk6 k n e s nn ni).ok) : ∀ (h : Heap), CallOk CB 55 [.agg [.int .i64 k, .int .i64 n, .int .i64 e, .str s, .slT .str nn x, .slT .val ni y]] h none (.val (gI (plV (mk6 k n e s nn ni))) h none) := by
  have key : ∀ d (v : Val), v.dep < d → v.ok → ∀ (x y : Bool), ∀ h, CallOk CB 55 [.agg [.int .i64 v.kind, .int .i64 v.n, .int .i64 v.e, .str v.s, .slT .str v.names x, .slT .val v.items y]] h none (.val (gI (plV (mk6 v.kind v.n v.e v.s v.names v.items))) h none) := by
    intro d
    induction d with
    | zero => intro v hv; exact absurd hv (Nat.not_lt_zero _)
    | succ d ih =>
      intro v hv ho x y
      have o := ok_fields ho
      refine f55_v _ _ _ _ _ _ _ _ ⟨ok6 ho, fun i hi => ?_⟩
      refine ih (vAt v.items i) ?_ (okL_at o.2.2.2.1 hi) false false
      have : (vAt v.items i).dep ≤ depL v.items := depL_at hi
      have e : v.dep = depL v.items + 1 := by cases v; rw [Val.dep]; rfl
      omega
  exact key _ (mk6 k n e s nn ni) (Nat.lt_succ_self _) hP x y
def r34 : RS := addS r33 55 fun args => match args with | [.agg [.int .i64 k, .int .i64 n, .int .i64 e, .str s, .slT .str nn _, .slT .val ni _]] => some (gI (plV (mk6 k n e s nn ni)), some ((mk6 k n e s nn ni).ok)) | _ => none
theorem r34_ok : RsOk r34 := RsOk.add r33_ok 55 fun _ _ _ e ho h => by
  split at e
  · cases e; exact f55_w _ _ _ _ _ _ _ _ ho h
  · cases e
def a33 (k : Int) (n : Int) (e : Int) (s : Str) (nn : List Str) (ni : List Val) : Int := (bif (!((fitV (mk6 k n e s nn ni) 8 120).2)) then 2 else plV (mk6 k n e s nn ni))
theorem f33_w (k : Int) (n : Int) (e : Int) (s : Str) (nn : List Str) (x : Bool) (ni : List Val) (y : Bool) (hP : (mk6 k n e s nn ni).ok) : ∀ h, CallOk CB 33 [.agg [.int .i64 k, .int .i64 n, .int .i64 e, .str s, .slT .str nn x, .slT .val ni y]] h none (.val (gI (a33 k n e s nn ni)) h none) :=
  pureS r34_ok Tryz.func33 <| K.i (True ∧ (mk6 k n e s nn ni).ok) ⟨trivial, hP⟩ fun _ => K.z gI (fun _ => K.r) (fun _ => K.i (True ∧ (mk6 k n e s nn ni).ok) ⟨trivial, hP⟩ fun _ => K.r)
def r35 : RS := addS r34 33 fun args => match args with | [.agg [.int .i64 k, .int .i64 n, .int .i64 e, .str s, .slT .str nn _, .slT .val ni _]] => some (gI (a33 k n e s nn ni), some ((mk6 k n e s nn ni).ok)) | _ => none
theorem r35_ok : RsOk r35 := RsOk.add r34_ok 33 fun _ _ _ e ho h => by
  split at e
  · cases e; exact f33_w _ _ _ _ _ _ _ _ ho h
  · cases e
def a31 (k : Int) (n : Int) (e : Int) (s : Str) (nn : List Str) (ni : List Val) : Bool := (bif (!(a32 k n e s nn ni)) then ((a33 k n e s nn ni) != 0) else false)
theorem f31_w (c : Int) (ek : Int) (et : Str) (en : Str) (k : Int) (n : Int) (e : Int) (s : Str) (nn : List Str) (x : Bool) (ni : List Val) (y : Bool) (eo : Int) (hP : (mk6 k n e s nn ni).ok) : ∀ h, CallOk CB 31 [.agg [.int .i64 c, .int .i64 ek, .str et, .str en, .int .i64 k, .int .i64 n, .int .i64 e, .str s, .slT .str nn x, .slT .val ni y, .int .i64 eo]] h none (.val (gB (a31 k n e s nn ni)) h none) :=
  pureS r35_ok Tryz.func31 <| K.i (True ∧ ((!(a32 k n e s nn ni)) = true → (mk6 k n e s nn ni).ok)) ⟨trivial, fun _ => hP⟩ fun _ => K.r
def r36 : RS := addS r35 31 fun args => match args with | [.agg [.int .i64 _, .int .i64 _, .str _, .str _, .int .i64 k, .int .i64 n, .int .i64 e, .str s, .slT .str nn _, .slT .val ni _, .int .i64 _]] => some (gB (a31 k n e s nn ni), some ((mk6 k n e s nn ni).ok)) | _ => none
theorem r36_ok : RsOk r36 := RsOk.add r35_ok 31 fun _ _ _ e ho h => by
  split at e
  · cases e; exact f31_w _ _ _ _ _ _ _ _ _ _ _ _ _ ho h
  · cases e
/-- events whose values are as long as memory can hold -/
def evOk (l : List Mev) : Prop := ∀ i, i < l.length → (eAt l i).value.ok
theorem ev_ok6 {l : List Mev} {i : Nat} (h : evOk l) (hi : i < l.length) : (mk6 (eAt l i).value.kind (eAt l i).value.n (eAt l i).value.e (eAt l i).value.s (eAt l i).value.names (eAt l i).value.items).ok := ok6 (h i hi)
def f53 (l : List Mev) : Nat → Nat → Int
  | _, 0 => (-1)
  | i, rr + 1 => (bif a31 (((eAt l i).value).kind) (((eAt l i).value).n) (((eAt l i).value).e) (((eAt l i).value).s) (((eAt l i).value).names) (((eAt l i).value).items) then ((i : Nat) : Int) else f53 l (i + 1) rr)
theorem f53_w (l : List Mev) (lx : Bool) (hP : l.length < big ∧ evOk l) : ∀ h, CallOk CB 53 [.slT .event l lx, .fn (.func 31) [] []] h none (.val (gI (f53 l 0 l.length)) h none) :=
  pureS r36_ok Tryz.func53 <| K.lc gI 8 l.length (f53 l) hP.1 (fun i _ N0 hi0 => K.w1 hi0 <| K.i ((True ∧ Ix ((i : Nat) : Int) l) ∧ (mk6 (((eAt l i).value).kind) (((eAt l i).value).n) (((eAt l i).value).e) (((eAt l i).value).s) (((eAt l i).value).names) (((eAt l i).value).items)).ok) ⟨⟨trivial, ix hi0⟩, ev_ok6 hP.2 hi0⟩ fun _ => K.z gI (fun _ => K.r) (fun _ => K.nc 8 N0 hP.1 hi0)) (fun _ => K.w0 l.length <| K.r)
def r37 : RS := addS r36 53 fun args => match args with | [.slT .event l _, .fn (.func 31) [] []] => some (gI (f53 l 0 l.length), some (l.length < big ∧ evOk l)) | _ => none
theorem r37_ok : RsOk r37 := RsOk.add r36_ok 53 fun _ _ _ e ho h => by
  split at e
  · cases e; exact f53_w _ _ ho h
  · cases e
theorem f30_w (l : List Mev) (lx : Bool) (hP : l.length < big ∧ evOk l) : ∀ h, CallOk CB 30 [.slT .event l lx, .fn (.func 31) [] []] h none (.val (gB (decide ((f53 l 0 l.length) ≥ 0))) h none) :=
  pureS r37_ok Tryz.func30 <| K.i (True ∧ l.length < big ∧ evOk l) ⟨trivial, hP⟩ fun _ => K.r
def r38 : RS := addS r37 30 fun args => match args with | [.slT .event l _, .fn (.func 31) [] []] => some (gB (decide ((f53 l 0 l.length) ≥ 0)), some (l.length < big ∧ evOk l)) | _ => none
theorem r38_ok : RsOk r38 := RsOk.add r37_ok 30 fun _ _ _ e ho h => by
  split at e
  · cases e; exact f30_w _ _ ho h
  · cases e
def a18 (ev : List Mev) : Bool := (bif decide (((ev.length : Nat) : Int) > 2000) then true else decide ((f53 ev 0 ev.length) ≥ 0))
theorem f18_w (ch : List Int) (cx : Bool) (ev : List Mev) (ex : Bool) (vd : List Int) (vx : Bool) (st : Int) (hP : ev.length < big ∧ evOk ev) : ∀ h, CallOk CB 18 [.agg [.slT .int ch cx, .slT .event ev ex, .slT .int vd vx, .int .i64 st]] h none (.val (gB (a18 ev)) h none) :=
  pureS r38_ok Tryz.func18 <| K.i (True ∧ (decide (((ev.length : Nat) : Int) > 2000) = false → ev.length < big ∧ evOk ev)) ⟨trivial, fun _ => hP⟩ fun _ => K.r
def r39 : RS := addS r38 18 fun args => match args with | [.agg [.slT .int _ _, .slT .event ev _, .slT .int _ _, .int .i64 _]] => some (gB (a18 ev), some (ev.length < big ∧ evOk ev)) | _ => none
theorem r39_ok : RsOk r39 := RsOk.add r38_ok 18 fun _ _ _ e ho h => by
  split at e
  · cases e; exact f18_w _ _ _ _ _ _ _ ho h
  · cases e
end
end Go.Abs
namespace Go.Abs
noncomputable section
open Go Go.Proofs
def s19 : List AV → Option AV := fun args => match args with | [.agg [.int .i64 k, .int .i64 n, .int .i64 e, .str s, .slT .str nn _, .slT .val ni _], .agg [.int .i64 k2, .int .i64 n2, .int .i64 e2, .str s2, .slT .str nn2 _, .slT .val ni2 _]] => some (gB (eqV (mk6 k n e s nn ni) (mk6 k2 n2 e2 s2 nn2 ni2))) | _ => none
def q19 : RS := addS r39 19 (selfS 19 s19)
theorem q19_ok : RsOk q19 := r39_ok.add 19 selfS_ok
/-- it is so, of values that stand in a list -/
def Ok19 (a b : Val) : Prop := ∀ h, CallOk CB 19 [.agg [.int .i64 a.kind, .int .i64 a.n, .int .i64 a.e, .str a.s, .slT .str a.names false, .slT .val a.items false], .agg [.int .i64 b.kind, .int .i64 b.n, .int .i64 b.e, .str b.s, .slT .str b.names false, .slT .val b.items false]] h none (.val (gB (eqV (mk6 a.kind a.n a.e a.s a.names a.items) (mk6 b.kind b.n b.e b.s b.names b.items))) h none)
def f35 (l : List Val) (l2 : List Val) : Nat → Nat → Bool
  | _, 0 => true
  | i, rr + 1 => (bif (!(eqV (mk6 ((vAt l i).kind) ((vAt l i).n) ((vAt l i).e) ((vAt l i).s) ((vAt l i).names) ((vAt l i).items)) (mk6 ((vAt l2 i).kind) ((vAt l2 i).n) ((vAt l2 i).e) ((vAt l2 i).s) ((vAt l2 i).names) ((vAt l2 i).items)))) then false else f35 l l2 (i + 1) rr)
theorem eqV_6 (a b : Val) : eqV (mk6 a.kind a.n a.e a.s a.names a.items) (mk6 b.kind b.n b.e b.s b.names b.items) = eqV a b := by
  cases a; cases b; unfold mk6; rw [eqV, eqV]; rfl
theorem eqVL_len : ∀ (l l2 : List Val), ¬ l.length = l2.length → eqVL l l2 = false
  | [], [], h => absurd rfl h
  | [], _ :: _, _ => by rw [eqVL]
  | _ :: _, [], _ => by rw [eqVL]
  | a :: l, b :: l2, h => by rw [eqVL, eqVL_len l l2 (fun e => h (by simp [e])), Bool.and_false]
theorem len_ne {a b : Nat} : ((((a : Nat) : Int)) != ((b : Nat) : Int)) = !(decide (a = b)) := by
  by_cases h : a = b
  · subst h; simp
  · rw [decide_eq_false h]; simp only [Bool.not_false, bne_iff_ne, ne_eq]; omega
theorem f35_eq (l l2 : List Val) : eqVL l l2 = (bif ((((l.length : Nat) : Int)) != ((l2.length : Nat) : Int)) then false else f35 l l2 0 l.length) := by
  rw [len_ne]
  by_cases hl : l.length = l2.length
  · rw [decide_eq_true hl]
    have key : ∀ m i, i + m = l.length → f35 l l2 i m = eqVL (l.drop i) (l2.drop i) := by
      intro m
      induction m with
      | zero => intro i hi; rw [List.drop_of_length_le (by omega), List.drop_of_length_le (by omega), eqVL]; rfl
      | succ m ih =>
        intro i hi
        have h1 : i < l.length := by omega
        have h2 : i < l2.length := by omega
        show (bif !(eqV (mk6 (vAt l i).kind (vAt l i).n (vAt l i).e (vAt l i).s (vAt l i).names (vAt l i).items) (mk6 (vAt l2 i).kind (vAt l2 i).n (vAt l2 i).e (vAt l2 i).s (vAt l2 i).names (vAt l2 i).items)) then false else f35 l l2 (i + 1) m) = _
        rw [eqV_6, ih (i + 1) (by omega), List.drop_eq_getElem_cons h1, List.drop_eq_getElem_cons h2, eqVL, vAt_get h1, vAt_get h2]
        cases eqV l[i] l2[i] <;> rfl
    have := key l.length 0 (by omega)
    rw [List.drop_zero, List.drop_zero] at this
    rw [this]; rfl
  · rw [decide_eq_false hl, eqVL_len l l2 hl]; rfl
theorem f35_w (l : List Val) (lx : Bool) (l2 : List Val) (l2x : Bool) (hP : l.length < big ∧ ∀ i, i < l.length → Ok19 (vAt l i) (vAt l2 i)) : ∀ h, CallOk CB 35 [.slT .val l lx, .slT .val l2 l2x, .fn (.func 19) [] []] h none (.val (gB (eqVL l l2)) h none) :=
  pureS q19_ok Tryz.func35 <| K.e (congrArg gB (f35_eq l l2)) <| K.z gB (fun _ => K.r) (fun h1 => K.lc gB 17 l.length (f35 l l2) hP.1 (fun i _ N0 hi0 => K.w1 hi0 <| K.i (True ∧ Ix ((i : Nat) : Int) l) ⟨trivial, ix hi0⟩ fun _ => K.i (True ∧ Ix ((i : Nat) : Int) l2) ⟨trivial, ix (eq_len h1 hi0)⟩ fun _ => K.i (True ∧ ∀ h, CallOk CB 19 [.agg [.int .i64 ((vAt l i).kind), .int .i64 ((vAt l i).n), .int .i64 ((vAt l i).e), .str ((vAt l i).s), .slT .str ((vAt l i).names) false, .slT .val ((vAt l i).items) false], .agg [.int .i64 ((vAt l2 i).kind), .int .i64 ((vAt l2 i).n), .int .i64 ((vAt l2 i).e), .str ((vAt l2 i).s), .slT .str ((vAt l2 i).names) false, .slT .val ((vAt l2 i).items) false]] h none (.val (gB (eqV (mk6 ((vAt l i).kind) ((vAt l i).n) ((vAt l i).e) ((vAt l i).s) ((vAt l i).names) ((vAt l i).items)) (mk6 ((vAt l2 i).kind) ((vAt l2 i).n) ((vAt l2 i).e) ((vAt l2 i).s) ((vAt l2 i).names) ((vAt l2 i).items)))) h none)) ⟨trivial, hP.2 i hi0⟩ fun _ => K.z gB (fun _ => K.r) (fun _ => K.nc 17 N0 hP.1 hi0)) (fun _ => K.w0 l.length <| K.r))
def r40 : RS := addS q19 35 fun args => match args with | [.slT .val l _, .slT .val l2 _, .fn (.func 19) [] []] => some (gB (eqVL l l2), some (l.length < big ∧ ∀ i, i < l.length → Ok19 (vAt l i) (vAt l2 i))) | _ => none
theorem r40_ok : RsOk r40 := RsOk.add q19_ok 35 fun _ _ _ e ho h => by
  split at e
  · cases e; exact f35_w _ _ _ _ ho h
  · cases e
theorem a34_eq (l l2 : List Str) : a34 l l2 = decide (l = l2) := by
  unfold a34
  rw [len_ne]
  by_cases hl : l.length = l2.length
  · rw [decide_eq_true hl]
    have key : ∀ m i, i + m = l.length → f34 l l2 i m = decide (l.drop i = l2.drop i) := by
      intro m
      induction m with
      | zero => intro i hi; rw [List.drop_of_length_le (by omega), List.drop_of_length_le (by omega)]; rfl
      | succ m ih =>
        intro i hi
        have h1 : i < l.length := by omega
        have h2 : i < l2.length := by omega
        show (bif !(beqBytes (sAt l i) (sAt l2 i)) then false else f34 l l2 (i + 1) m) = _
        rw [ih (i + 1) (by omega), List.drop_eq_getElem_cons h1, List.drop_eq_getElem_cons h2, sAt_get h1, sAt_get h2, beqBytes_eq]
        generalize l.drop (i + 1) = p
        generalize l2.drop (i + 1) = q
        generalize l[i] = a
        generalize l2[i] = b
        by_cases h : a = b
        · subst h; simp
        · simp [h]
    have := key l.length 0 (by omega)
    rw [List.drop_zero, List.drop_zero] at this
    rw [this]; rfl
  · rw [decide_eq_false hl, decide_eq_false (fun e => hl (by rw [e]))]; rfl
theorem f19_eq (k n e : Int) (s : Str) (nn : List Str) (ni : List Val) (k2 n2 e2 : Int) (s2 : Str) (nn2 : List Str) (ni2 : List Val) : eqV (mk6 k n e s nn ni) (mk6 k2 n2 e2 s2 nn2 ni2) = (bif (bif (bif (bif (bif (k == k2) then (n == n2) else false) then (e == e2) else false) then beqBytes s s2 else false) then a34 nn nn2 else false) then eqVL ni ni2 else false) := by
  unfold mk6
  rw [eqV, a34_eq]
  cases (k == k2) <;> cases (n == n2) <;> cases (e == e2) <;> cases beqBytes s s2 <;> cases decide (nn = nn2) <;> rfl
theorem f19_v (k : Int) (n : Int) (e : Int) (s : Str) (nn : List Str) (x : Bool) (ni : List Val) (y : Bool) (k2 : Int) (n2 : Int) (e2 : Int) (s2 : Str) (nn2 : List Str) (x2 : Bool) (ni2 : List Val) (y2 : Bool) (hP : (nn.length < big ∧ ni.length < big) ∧ ∀ i, i < ni.length → Ok19 (vAt ni i) (vAt ni2 i)) : ∀ h, CallOk CB 19 [.agg [.int .i64 k, .int .i64 n, .int .i64 e, .str s, .slT .str nn x, .slT .val ni y], .agg [.int .i64 k2, .int .i64 n2, .int .i64 e2, .str s2, .slT .str nn2 x2, .slT .val ni2 y2]] h none (.val (gB (eqV (mk6 k n e s nn ni) (mk6 k2 n2 e2 s2 nn2 ni2))) h none) :=
  Classical.byContradiction fun hN => hN (pureS (hs := specOf_off hN) r40_ok Tryz.func19 <| K.e (congrArg gB (f19_eq k n e s nn ni k2 n2 e2 s2 nn2 ni2)) <| K.i ((True ∧ ((bif (bif (bif (k == k2) then (n == n2) else false) then (e == e2) else false) then beqBytes s s2 else false) = true → nn.length < big)) ∧ ((bif (bif (bif (bif (k == k2) then (n == n2) else false) then (e == e2) else false) then beqBytes s s2 else false) then a34 nn nn2 else false) = true → ni.length < big ∧ ∀ i, i < ni.length → Ok19 (vAt ni i) (vAt ni2 i))) ⟨⟨trivial, fun _ => hP.1.1⟩, fun _ => ⟨hP.1.2, hP.2⟩⟩ fun _ => K.r)
theorem f19_w : ∀ (k : Int) (n : Int) (e : Int) (s : Str) (nn : List Str) (x : Bool) (ni : List Val) (y : Bool) (k2 : Int) (n2 : Int) (e2 : Int) (s2 : Str) (nn2 : List Str) (x2 : Bool) (ni2 : List Val) (y2 : Bool) (_ : (mk6 k n e s nn ni).ok) (h : Heap), CallOk CB 19 [.agg [.int .i64 k, .int .i64 n, .int .i64 e, .str s, .slT .str nn x, .slT .val ni y], .agg [.int .i64 k2, .int .i64 n2, .int .i64 e2, .str s2, .slT .str nn2 x2, .slT .val ni2 y2]] h none (.val (gB (eqV (mk6 k n e s nn ni) (mk6 k2 n2 e2 s2 nn2 ni2))) h none) := by
  have key : ∀ d (v : Val), v.dep < d → v.ok → ∀ (x y : Bool) (k2 : Int) (n2 : Int) (e2 : Int) (s2 : Str) (nn2 : List Str) (x2 : Bool) (ni2 : List Val) (y2 : Bool), ∀ h, CallOk CB 19 [.agg [.int .i64 v.kind, .int .i64 v.n, .int .i64 v.e, .str v.s, .slT .str v.names x, .slT .val v.items y], .agg [.int .i64 k2, .int .i64 n2, .int .i64 e2, .str s2, .slT .str nn2 x2, .slT .val ni2 y2]] h none (.val (gB (eqV (mk6 v.kind v.n v.e v.s v.names v.items) (mk6 k2 n2 e2 s2 nn2 ni2))) h none) := by
    intro d
    induction d with
    | zero => intro v hv; exact absurd hv (Nat.not_lt_zero _)
    | succ d ih =>
      intro v hv ho x y k2 n2 e2 s2 nn2 x2 ni2 y2
      have o := ok_fields ho
      refine f19_v _ _ _ _ _ _ _ _ _ _ _ _ _ _ _ _ ⟨⟨o.2.1, o.2.2.1⟩, fun i hi => ?_⟩
      refine ih (vAt v.items i) ?_ (okL_at o.2.2.2.1 hi) false false _ _ _ _ _ _ _ _
      have : (vAt v.items i).dep ≤ depL v.items := depL_at hi
      have e : v.dep = depL v.items + 1 := by cases v; rw [Val.dep]; rfl
      omega
  intro k n e s nn x ni y k2 n2 e2 s2 nn2 x2 ni2 y2 hP
  exact key _ (mk6 k n e s nn ni) (Nat.lt_succ_self _) hP x y k2 n2 e2 s2 nn2 x2 ni2 y2
def r41 : RS := addS r39 19 fun args => match args with | [.agg [.int .i64 k, .int .i64 n, .int .i64 e, .str s, .slT .str nn _, .slT .val ni _], .agg [.int .i64 k2, .int .i64 n2, .int .i64 e2, .str s2, .slT .str nn2 _, .slT .val ni2 _]] => some (gB (eqV (mk6 k n e s nn ni) (mk6 k2 n2 e2 s2 nn2 ni2)), some ((mk6 k n e s nn ni).ok)) | _ => none
theorem r41_ok : RsOk r41 := RsOk.add r39_ok 19 fun _ _ _ e ho h => by
  split at e
  · cases e; exact f19_w _ _ _ _ _ _ _ _ _ _ _ _ _ _ _ _ ho h
  · cases e
def gP (p : Int × Int) : AV := .tup [.int .i64 p.1, .int .i64 p.2]
theorem min_cast (a b : Nat) : (bif decide (((b : Nat) : Int) < ((a : Nat) : Int)) then ((b : Nat) : Int) else ((a : Nat) : Int)) = ((Nat.min a b : Nat) : Int) := by
  by_cases h : b < a
  · rw [decide_eq_true (by omega)]; show ((b : Nat) : Int) = ((min a b : Nat) : Int); omega
  · rw [decide_eq_false (by omega)]; show ((a : Nat) : Int) = ((min a b : Nat) : Int); omega
def f6 (ev : List Mev) (ev2 : List Mev) : Nat → Nat → Int × Int
  | _, 0 => (bif (((ev.length : Nat) : Int) == ((ev2.length : Nat) : Int)) then (0, 23) else ((bif decide (((ev2.length : Nat) : Int) < ((ev.length : Nat) : Int)) then ((ev2.length : Nat) : Int) else ((ev.length : Nat) : Int)), 0))
  | i, rr + 1 => (bif (bif (bif (bif (bif (bif (((eAt ev i).comp) != ((eAt ev2 i).comp)) then true else (((eAt ev i).kind) != ((eAt ev2 i).kind))) then true else !(beqBytes ((eAt ev i).text) ((eAt ev2 i).text))) then true else !(beqBytes ((eAt ev i).name) ((eAt ev2 i).name))) then true else (((eAt ev i).other) != ((eAt ev2 i).other))) then true else (!(eqV (mk6 (((eAt ev i).value).kind) (((eAt ev i).value).n) (((eAt ev i).value).e) (((eAt ev i).value).s) (((eAt ev i).value).names) (((eAt ev i).value).items)) (mk6 (((eAt ev2 i).value).kind) (((eAt ev2 i).value).n) (((eAt ev2 i).value).e) (((eAt ev2 i).value).s) (((eAt ev2 i).value).names) (((eAt ev2 i).value).items))))) then (((i : Nat) : Int), 0) else f6 ev ev2 (i + 1) rr)
def a6 (ev : List Mev) (ev2 : List Mev) : Int × Int := (bif (bif a18 ev then true else a18 ev2) then (0, 2) else f6 ev ev2 0 (Nat.min ev.length ev2.length))
theorem f6_w (ch : List Int) (cx : Bool) (ev : List Mev) (ex : Bool) (vd : List Int) (vx : Bool) (st : Int) (ch2 : List Int) (cx2 : Bool) (ev2 : List Mev) (ex2 : Bool) (vd2 : List Int) (vx2 : Bool) (st2 : Int) (hP : (ev.length < big ∧ evOk ev) ∧ ev2.length < big ∧ evOk ev2) : ∀ h, CallOk CB 6 [.agg [.slT .int ch cx, .slT .event ev ex, .slT .int vd vx, .int .i64 st], .agg [.slT .int ch2 cx2, .slT .event ev2 ex2, .slT .int vd2 vx2, .int .i64 st2]] h none (.val (gP (a6 ev ev2)) h none) :=
  pureS r41_ok Tryz.func6 <| K.i ((True ∧ ev.length < big ∧ evOk ev) ∧ (a18 ev = false → ev2.length < big ∧ evOk ev2)) ⟨⟨trivial, hP.1⟩, fun _ => hP.2⟩ fun _ => K.z gP (fun _ => K.r) (fun _ => K.p 21 (congrArg (AV.int .i64) (min_cast ev.length ev2.length)) <| K.lc gP 22 (Nat.min ev.length ev2.length) (f6 ev ev2) (Nat.lt_of_le_of_lt (Nat.min_le_left _ _) hP.1.1) (fun i _ N0 hi0 => K.w1 hi0 <| K.d ((True ∧ Ix ((i : Nat) : Int) ev) ∧ Ix ((i : Nat) : Int) ev2) ⟨⟨trivial, ix (Nat.lt_of_lt_of_le hi0 (Nat.min_le_left _ _))⟩, ix (Nat.lt_of_lt_of_le hi0 (Nat.min_le_right _ _))⟩ <| K.i (True ∧ ((bif (bif (bif (bif (((eAt ev i).comp) != ((eAt ev2 i).comp)) then true else (((eAt ev i).kind) != ((eAt ev2 i).kind))) then true else !(beqBytes ((eAt ev i).text) ((eAt ev2 i).text))) then true else !(beqBytes ((eAt ev i).name) ((eAt ev2 i).name))) then true else (((eAt ev i).other) != ((eAt ev2 i).other))) = false → (mk6 (((eAt ev i).value).kind) (((eAt ev i).value).n) (((eAt ev i).value).e) (((eAt ev i).value).s) (((eAt ev i).value).names) (((eAt ev i).value).items)).ok)) ⟨trivial, fun _ => ev_ok6 hP.1.2 (Nat.lt_of_lt_of_le hi0 (Nat.min_le_left _ _))⟩ fun _ => K.z gP (fun _ => K.r) (fun _ => K.nc 22 N0 (Nat.lt_of_le_of_lt (Nat.min_le_left _ _) hP.1.1) hi0)) (fun _ => K.w0 (Nat.min ev.length ev2.length) <| K.z gP (fun _ => K.r) (fun _ => K.r)))
def r42 : RS := addS r41 6 fun args => match args with | [.agg [.slT .int _ _, .slT .event ev _, .slT .int _ _, .int .i64 _], .agg [.slT .int _ _, .slT .event ev2 _, .slT .int _ _, .int .i64 _]] => some (gP (a6 ev ev2), some ((ev.length < big ∧ evOk ev) ∧ ev2.length < big ∧ evOk ev2)) | _ => none
theorem r42_ok : RsOk r42 := RsOk.add r41_ok 6 fun _ _ _ e ho h => by
  split at e
  · cases e; exact f6_w _ _ _ _ _ _ _ _ _ _ _ _ _ _ ho h
  · cases e
end
end Go.Abs
namespace Go.Abs
noncomputable section
open Go Go.Proofs
theorem lt_off {i n : Nat} (h : i < n - 1) : 1 + i < n := by omega
theorem hl_1 {s : Str} (h : s.length < big) : lenN s - 1 < big := by rw [lenN_eq]; omega
theorem hl_o {s : Str} (h : s.length < big) : 1 + (lenN s - 1) < big := by rw [lenN_eq]; unfold big at *; omega
theorem within_1 {n : Nat} (h : (!(a214 ((n : Nat) : Int) 1 32)) = false) : 1 ≤ n ∧ n ≤ 32 := by
  unfold a214 at h
  by_cases h1 : (1 : Int) ≤ ((n : Nat) : Int)
  · rw [decide_eq_true h1] at h
    by_cases h2 : ((n : Nat) : Int) ≤ 32
    · omega
    · rw [decide_eq_false h2] at h; cases h
  · rw [decide_eq_false h1] at h; cases h
theorem ix_0 {s : Str} (h : (!(a214 ((lenN s : Nat) : Int) 1 32)) = false) : Ix 0 s := by
  have := within_1 h
  rw [lenN_eq] at this
  exact ⟨Int.le_refl _, by omega⟩
theorem ix_l {s : Str} {c : Bool} (h : (bif (!(a214 ((lenN s : Nat) : Int) 1 32)) then true else c) = false) : Ix (wrapF .i64 (((lenN s : Nat) : Int) - 1)) s := by
  have h1 : (!(a214 ((lenN s : Nat) : Int) 1 32)) = false := by
    cases h2 : (!(a214 ((lenN s : Nat) : Int) 1 32)) with
    | true => rw [h2] at h; cases h
    | false => rfl
  have := within_1 h1
  rw [lenN_eq] at this ⊢
  rw [wrap64 (by omega) (by omega)]
  exact ⟨by omega, by omega⟩
theorem ix_p {s : Str} {i : Nat} (hP : s.length < big) (h : i < lenN s - 1) : Ix (wrapF .i64 (((1 + i : Nat) : Int) - 1)) s := by
  rw [lenN_eq] at h
  unfold big at hP
  rw [wrap64 (by omega) (by omega)]
  exact ⟨by omega, by omega⟩
def f216 (s : Str) : Nat → Nat → Bool
  | _, 0 => true
  | i, rr + 1 => (bif (bif (bif (bif (bif (!(a304 (((byteAt s ((1 + i : Nat) : Int)).toNat : Nat) : Int))) then (!(a302 (((byteAt s ((1 + i : Nat) : Int)).toNat : Nat) : Int))) else false) then (!(a303 (((byteAt s ((1 + i : Nat) : Int)).toNat : Nat) : Int))) else false) then ((((byteAt s ((1 + i : Nat) : Int)).toNat : Nat) : Int) != 95) else false) then (bif ((((byteAt s ((1 + i : Nat) : Int)).toNat : Nat) : Int) != 45) then true else ((((byteAt s (wrapF .i64 (((1 + i : Nat) : Int) - 1))).toNat : Nat) : Int) == 45)) else false) then false else f216 s (i + 1) rr)
def a216 (s : Str) : Bool := (bif (bif (bif (!(a214 ((lenN s : Nat) : Int) 1 32)) then true else (bif (!(a302 (((byteAt s 0).toNat : Nat) : Int))) then (!(a303 (((byteAt s 0).toNat : Nat) : Int))) else false)) then true else ((((byteAt s (wrapF .i64 (((lenN s : Nat) : Int) - 1))).toNat : Nat) : Int) == 45)) then false else f216 s 0 ((lenN s) - 1))
theorem f216_w (s : Str) (hP : s.length < big) : ∀ h, CallOk CB 216 [.str s] h none (.val (gB (a216 s)) h none) :=
  pureS r42_ok Tryz.func216 <| K.i (((True ∧ ((!(a214 ((lenN s : Nat) : Int) 1 32)) = false → Ix 0 s)) ∧ ((!(a302 (((byteAt s 0).toNat : Nat) : Int))) = true → ((!(a214 ((lenN s : Nat) : Int) 1 32)) = false → Ix 0 s))) ∧ ((bif (!(a214 ((lenN s : Nat) : Int) 1 32)) then true else (bif (!(a302 (((byteAt s 0).toNat : Nat) : Int))) then (!(a303 (((byteAt s 0).toNat : Nat) : Int))) else false)) = false → Ix (wrapF .i64 (((lenN s : Nat) : Int) - 1)) s)) ⟨⟨⟨trivial, fun h => ix_0 h⟩, fun _ h => ix_0 h⟩, fun h => ix_l h⟩ fun _ => K.z gB (fun _ => K.r) (fun _ => K.lo gB 1 3 ((lenN s) - 1) (f216 s) (hl_1 hP) (fun i _ N0 hi0 => K.w1 (lt_off hi0) <| K.i (True ∧ Ix ((1 + i : Nat) : Int) s) ⟨trivial, ixs (lt_off hi0)⟩ fun _ => K.i (True ∧ (((((byteAt s ((1 + i : Nat) : Int)).toNat : Nat) : Int) != 45) = false → ((bif (bif (bif (!(a304 (((byteAt s ((1 + i : Nat) : Int)).toNat : Nat) : Int))) then (!(a302 (((byteAt s ((1 + i : Nat) : Int)).toNat : Nat) : Int))) else false) then (!(a303 (((byteAt s ((1 + i : Nat) : Int)).toNat : Nat) : Int))) else false) then ((((byteAt s ((1 + i : Nat) : Int)).toNat : Nat) : Int) != 95) else false) = true → Ix (wrapF .i64 (((1 + i : Nat) : Int) - 1)) s))) ⟨trivial, fun _ _ => ix_p hP hi0⟩ fun _ => K.z gB (fun _ => K.r) (fun _ => K.nco 1 3 N0 (hl_o hP) hi0)) (fun _ => K.w0o 1 (lenN s) <| K.r))
def r43 : RS := addS r42 216 fun args => match args with | [.str s] => some (gB (a216 s), some (s.length < big)) | _ => none
theorem r43_ok : RsOk r43 := RsOk.add r42_ok 216 fun _ _ _ e ho h => by
  split at e
  · cases e; exact f216_w _ ho h
  · cases e
end
end Go.Abs
namespace Go.Abs
noncomputable section
open Go Go.Proofs
def f85 (a : Int) (b : Int) (c : Int) (a2 : Int) (b2 : Int) (c2 : Int) : Nat → Nat → Int
  | 0, rr + 1 => (bif (a != a2) then wrapF .i64 ((wrapF .i64 (2 * (bif (decide (a > a2)) then 1 else 0))) - 1) else f85 a b c a2 b2 c2 1 rr)
  | 1, rr + 1 => (bif (b != b2) then wrapF .i64 ((wrapF .i64 (2 * (bif (decide (b > b2)) then 1 else 0))) - 1) else f85 a b c a2 b2 c2 2 rr)
  | 2, rr + 1 => (bif (c != c2) then wrapF .i64 ((wrapF .i64 (2 * (bif (decide (c > c2)) then 1 else 0))) - 1) else f85 a b c a2 b2 c2 3 rr)
  | _, _ => wrapF .i64 ((bif false then 1 else 0) - (bif false then 1 else 0))
theorem f85_w (a : Int) (b : Int) (c : Int) (a2 : Int) (b2 : Int) (c2 : Int) : ∀ h, CallOk CB 85 [.slR [.int .i64 a, .int .i64 b, .int .i64 c] 0 3 3 false, .slR [.int .i64 a2, .int .i64 b2, .int .i64 c2] 0 3 3 false] h none (.val (gI (f85 a b c a2 b2 c2 0 3)) h none) :=
  pureS r43_ok Tryz.func85 <| K.lc gI 5 3 (f85 a b c a2 b2 c2) (by decide) (fun i _ N0 hi0 => match i, N0, hi0 with | 0, N0, hi0 => K.g fun _ => K.t <| K.z gI (fun _ => K.r) (fun _ => K.nc 5 N0 (by decide) hi0) | 1, N0, hi0 => K.g fun _ => K.t <| K.z gI (fun _ => K.r) (fun _ => K.nc 5 N0 (by decide) hi0) | 2, N0, hi0 => K.g fun _ => K.t <| K.z gI (fun _ => K.r) (fun _ => K.nc 5 N0 (by decide) hi0) | _ + 3, _, h => absurd h (by omega)) (fun _ => K.g fun _ => K.f <| K.r)
def r44 : RS := addS r43 85 fun args => match args with | [.slR [.int .i64 a, .int .i64 b, .int .i64 c] 0 3 3 false, .slR [.int .i64 a2, .int .i64 b2, .int .i64 c2] 0 3 3 false] => some (gI (f85 a b c a2 b2 c2 0 3), none) | _ => none
theorem r44_ok : RsOk r44 := RsOk.add r43_ok 85 fun _ _ _ e ho h => by
  split at e
  · cases e; exact f85_w _ _ _ _ _ _ h
  · cases e
def s57 : List AV → Option AV := fun args => match args with | [.agg [.int .i64 k, .int .i64 n, .int .i64 e, .str s, .slT .str nn _, .slT .val ni _], .agg [.int .i64 k2, .int .i64 n2, .int .i64 e2, .str s2, .slT .str nn2 _, .slT .val ni2 _]] => some (gI (cmpV (mk6 k n e s nn ni) (mk6 k2 n2 e2 s2 nn2 ni2))) | _ => none
def q57 : RS := addS r44 57 (selfS 57 s57)
theorem q57_ok : RsOk q57 := r44_ok.add 57 selfS_ok
/-- it is so, of values that stand in a list -/
def Ok57 (a b : Val) : Prop := ∀ h, CallOk CB 57 [.agg [.int .i64 a.kind, .int .i64 a.n, .int .i64 a.e, .str a.s, .slT .str a.names false, .slT .val a.items false], .agg [.int .i64 b.kind, .int .i64 b.n, .int .i64 b.e, .str b.s, .slT .str b.names false, .slT .val b.items false]] h none (.val (gI (cmpV (mk6 a.kind a.n a.e a.s a.names a.items) (mk6 b.kind b.n b.e b.s b.names b.items))) h none)
def f87 (l : List Val) (l2 : List Val) : Nat → Nat → Int
  | _, 0 => wrapF .i64 ((bif (decide (((l.length : Nat) : Int) > ((l2.length : Nat) : Int))) then 1 else 0) - (bif (ltB l.length l2.length) then 1 else 0))
  | i, rr + 1 => (bif ltB i l2.length then (bif ((cmpV (mk6 ((vAt l i).kind) ((vAt l i).n) ((vAt l i).e) ((vAt l i).s) ((vAt l i).names) ((vAt l i).items)) (mk6 ((vAt l2 i).kind) ((vAt l2 i).n) ((vAt l2 i).e) ((vAt l2 i).s) ((vAt l2 i).names) ((vAt l2 i).items))) != 0) then cmpV (mk6 ((vAt l i).kind) ((vAt l i).n) ((vAt l i).e) ((vAt l i).s) ((vAt l i).names) ((vAt l i).items)) (mk6 ((vAt l2 i).kind) ((vAt l2 i).n) ((vAt l2 i).e) ((vAt l2 i).s) ((vAt l2 i).names) ((vAt l2 i).items)) else f87 l l2 (i + 1) rr) else wrapF .i64 ((bif (decide (((l.length : Nat) : Int) > ((l2.length : Nat) : Int))) then 1 else 0) - (bif (ltB l.length l2.length) then 1 else 0)))
theorem f87_eq (l l2 : List Val) : cmpL l l2 = f87 l l2 0 l.length := by
  have key : ∀ m i, i + m = l.length → i ≤ l2.length → f87 l l2 i m = cmpL (l.drop i) (l2.drop i) := by
    intro m
    induction m with
    | zero =>
      intro i hi h2
      have hi : i = l.length := by omega
      subst hi
      show wrapF .i64 ((bif (decide (((l.length : Nat) : Int) > ((l2.length : Nat) : Int))) then (1 : Int) else 0) - (bif (ltB l.length l2.length) then (1 : Int) else 0)) = _
      rw [decide_eq_false (p := ((l.length : Nat) : Int) > ((l2.length : Nat) : Int)) (by omega), List.drop_length]
      by_cases h : l.length < l2.length
      · rw [ltB_t h, List.drop_eq_getElem_cons h, cmpL]; rfl
      · rw [show ltB l.length l2.length = false from decide_eq_false (by omega), List.drop_of_length_le (i := l.length) (l := l2) (by omega), cmpL]; rfl
    | succ m ih =>
      intro i hi h2
      have h1 : i < l.length := by omega
      show (bif ltB i l2.length then (bif _ != 0 then _ else f87 l l2 (i + 1) m) else wrapF .i64 ((bif (decide (((l.length : Nat) : Int) > ((l2.length : Nat) : Int))) then (1 : Int) else 0) - (bif (ltB l.length l2.length) then (1 : Int) else 0))) = _
      rw [cmpV_6, List.drop_eq_getElem_cons h1, vAt_get h1]
      by_cases h : i < l2.length
      · rw [ltB_t h, ih (i + 1) (by omega) h, List.drop_eq_getElem_cons h, vAt_get h, cmpL]; rfl
      · rw [show ltB i l2.length = false from decide_eq_false (by omega), List.drop_of_length_le (i := i) (l := l2) (by omega), decide_eq_true (p := ((l.length : Nat) : Int) > ((l2.length : Nat) : Int)) (by omega), show ltB l.length l2.length = false from decide_eq_false (by omega), cmpL]; rfl
  have := key l.length 0 (by omega) (Nat.zero_le _)
  rw [List.drop_zero, List.drop_zero] at this
  exact this.symm
theorem f87_w (l : List Val) (lx : Bool) (l2 : List Val) (l2x : Bool) (hP : l.length < big ∧ ∀ q, q < l.length → q < l2.length → Ok57 (vAt l q) (vAt l2 q)) : ∀ h, CallOk CB 87 [.slT .val l lx, .slT .val l2 l2x] h none (.val (gI (cmpL l l2)) h none) :=
  pureS q57_ok Tryz.func87 <| K.e (congrArg gI (f87_eq l l2)) <| K.lc gI 5 l.length (f87 l l2) hP.1 (fun i _ N0 hi0 => K.g fun _ => K.wa gI hi0 (fun h1 => K.d (((True ∧ Ix ((i : Nat) : Int) l) ∧ Ix ((i : Nat) : Int) l2) ∧ ∀ h, CallOk CB 57 [.agg [.int .i64 ((vAt l i).kind), .int .i64 ((vAt l i).n), .int .i64 ((vAt l i).e), .str ((vAt l i).s), .slT .str ((vAt l i).names) false, .slT .val ((vAt l i).items) false], .agg [.int .i64 ((vAt l2 i).kind), .int .i64 ((vAt l2 i).n), .int .i64 ((vAt l2 i).e), .str ((vAt l2 i).s), .slT .str ((vAt l2 i).names) false, .slT .val ((vAt l2 i).items) false]] h none (.val (gI (cmpV (mk6 ((vAt l i).kind) ((vAt l i).n) ((vAt l i).e) ((vAt l i).s) ((vAt l i).names) ((vAt l i).items)) (mk6 ((vAt l2 i).kind) ((vAt l2 i).n) ((vAt l2 i).e) ((vAt l2 i).s) ((vAt l2 i).names) ((vAt l2 i).items)))) h none)) ⟨⟨⟨trivial, ix hi0⟩, ix (lt_of_ltB h1)⟩, hP.2 i hi0 (lt_of_ltB h1)⟩ <| K.z gI (fun _ => K.r) (fun _ => K.nc 5 N0 hP.1 hi0)) (fun h1 => K.r)) (fun _ => K.g fun _ => K.wb l.length (ltB l.length l2.length) <| K.r)
def r45 : RS := addS q57 87 fun args => match args with | [.slT .val l _, .slT .val l2 _] => some (gI (cmpL l l2), some (l.length < big ∧ ∀ q, q < l.length → q < l2.length → Ok57 (vAt l q) (vAt l2 q))) | _ => none
theorem r45_ok : RsOk r45 := RsOk.add q57_ok 87 fun _ _ _ e ho h => by
  split at e
  · cases e; exact f87_w _ _ _ _ ho h
  · cases e
def f57 (nn : List Str) (ni : List Val) (nn2 : List Str) (ni2 : List Val) : Nat → Nat → Int
  | _, 0 => (bif (((nn.length : Nat) : Int) != ((nn2.length : Nat) : Int)) then wrapF .i64 ((wrapF .i64 (2 * (bif (decide (((nn.length : Nat) : Int) > ((nn2.length : Nat) : Int))) then 1 else 0))) - 1) else cmpL ni ni2)
  | i, rr + 1 => (bif ltB i nn2.length then (bif !(beqBytes (sAt nn i) (sAt nn2 i)) then wrapF .i64 ((wrapF .i64 (2 * (bif (!(Op.bytesLess (sAt nn i) (sAt nn2 i) || beqBytes (sAt nn i) (sAt nn2 i))) then 1 else 0))) - 1) else f57 nn ni nn2 ni2 (i + 1) rr) else (bif (((nn.length : Nat) : Int) != ((nn2.length : Nat) : Int)) then wrapF .i64 ((wrapF .i64 (2 * (bif (decide (((nn.length : Nat) : Int) > ((nn2.length : Nat) : Int))) then 1 else 0))) - 1) else cmpL ni ni2))
theorem ne_int (a b r : Int) : (bif a != b then wrapF .i64 ((wrapF .i64 (2 * (bif (decide (a > b)) then (1 : Int) else 0))) - 1) else r) = orC (cmpI a b) r := by
  rw [← cmpI_ne]
  by_cases h : a = b
  · subst h; simp
  · rw [show (a != b) = true by simpa using h]
    by_cases h1 : a < b
    · rw [decide_eq_true h1, decide_eq_false (p := a > b) (by omega)]; rfl
    · rw [decide_eq_false h1, decide_eq_true (p := a > b) (by omega)]; rfl
theorem beq_cmp (a b : Str) : beqBytes a b = decide (cmpS a b = 0) := by
  rw [beqBytes_eq]
  by_cases h : a = b
  · rw [decide_eq_true (cmpS_zero.2 h)]; simpa using h
  · rw [decide_eq_false (fun h2 => h (cmpS_zero.1 h2))]; simpa using h
theorem ne_str (a b : Str) (r : Int) : (bif !(beqBytes a b) then wrapF .i64 ((wrapF .i64 (2 * (bif (!(Op.bytesLess a b || beqBytes a b)) then (1 : Int) else 0))) - 1) else r) = orC (cmpS a b) r := by
  rw [less_cmp, beq_cmp]
  rcases cmpS_range a b with h | h | h <;> rw [h] <;> rfl
theorem orC_as (a b c : Int) : orC (orC a b) c = orC a (orC b c) := by
  unfold orC
  by_cases h : a = 0
  · subst h; rfl
  · have h1 : (a != 0) = true := by simpa using h
    rw [h1]; simp only [cond_true]; rw [h1]; rfl
theorem orC_z (a : Int) : orC a 0 = a := by
  unfold orC
  by_cases h : a = 0
  · subst h; rfl
  · rw [show (a != 0) = true by simpa using h]; rfl
theorem f85_eq (a b c a2 b2 c2 : Int) : f85 a b c a2 b2 c2 0 3 = orC (cmpI a a2) (orC (cmpI b b2) (cmpI c c2)) := by
  show (bif a != a2 then wrapF .i64 ((wrapF .i64 (2 * (bif (decide (a > a2)) then (1 : Int) else 0))) - 1) else bif b != b2 then wrapF .i64 ((wrapF .i64 (2 * (bif (decide (b > b2)) then (1 : Int) else 0))) - 1) else bif c != c2 then wrapF .i64 ((wrapF .i64 (2 * (bif (decide (c > c2)) then (1 : Int) else 0))) - 1) else 0) = _
  rw [ne_int, ne_int, ne_int, orC_z]
theorem f57n_eq (nn nn2 : List Str) (ni ni2 : List Val) : f57 nn ni nn2 ni2 0 nn.length = orC (cmpN nn nn2) (cmpL ni ni2) := by
  have key : ∀ m i, i + m = nn.length → i ≤ nn2.length → f57 nn ni nn2 ni2 i m = orC (cmpN (nn.drop i) (nn2.drop i)) (cmpL ni ni2) := by
    intro m
    induction m with
    | zero =>
      intro i hi h2
      have hi : i = nn.length := by omega
      subst hi
      show (bif ((((nn.length : Nat) : Int)) != ((nn2.length : Nat) : Int)) then wrapF .i64 ((wrapF .i64 (2 * (bif (decide (((nn.length : Nat) : Int) > ((nn2.length : Nat) : Int))) then (1 : Int) else 0))) - 1) else cmpL ni ni2) = _
      rw [List.drop_length, decide_eq_false (p := ((nn.length : Nat) : Int) > ((nn2.length : Nat) : Int)) (by omega)]
      by_cases h : nn.length < nn2.length
      · rw [List.drop_eq_getElem_cons h, show ((((nn.length : Nat) : Int)) != ((nn2.length : Nat) : Int)) = true by simp only [bne_iff_ne, ne_eq]; omega]; rfl
      · have he : nn.length = nn2.length := by omega
        rw [List.drop_of_length_le (i := nn.length) (l := nn2) (by omega), he, show ((((nn2.length : Nat) : Int)) != ((nn2.length : Nat) : Int)) = false by simp]; rfl
    | succ m ih =>
      intro i hi h2
      have h1 : i < nn.length := by omega
      show (bif ltB i nn2.length then (bif !(beqBytes (sAt nn i) (sAt nn2 i)) then _ else f57 nn ni nn2 ni2 (i + 1) m) else bif ((((nn.length : Nat) : Int)) != ((nn2.length : Nat) : Int)) then wrapF .i64 ((wrapF .i64 (2 * (bif (decide (((nn.length : Nat) : Int) > ((nn2.length : Nat) : Int))) then (1 : Int) else 0))) - 1) else cmpL ni ni2) = _
      rw [ne_str, List.drop_eq_getElem_cons h1, sAt_get h1]
      by_cases h : i < nn2.length
      · rw [ltB_t h, ih (i + 1) (by omega) h, List.drop_eq_getElem_cons h, sAt_get h, cmpN, orC_as]; rfl
      · rw [show ltB i nn2.length = false from decide_eq_false (by omega), List.drop_of_length_le (i := i) (l := nn2) (by omega), decide_eq_true (p := ((nn.length : Nat) : Int) > ((nn2.length : Nat) : Int)) (by omega), show ((((nn.length : Nat) : Int)) != ((nn2.length : Nat) : Int)) = true by simp only [bne_iff_ne, ne_eq]; omega]; rfl
  have := key nn.length 0 (by omega) (Nat.zero_le _)
  rw [List.drop_zero, List.drop_zero] at this
  exact this
theorem f57_eq (k n e : Int) (s : Str) (nn : List Str) (ni : List Val) (k2 n2 e2 : Int) (s2 : Str) (nn2 : List Str) (ni2 : List Val) : cmpV (mk6 k n e s nn ni) (mk6 k2 n2 e2 s2 nn2 ni2) = (bif ((f85 k n e k2 n2 e2 0 3) != 0) then f85 k n e k2 n2 e2 0 3 else (bif !(beqBytes s s2) then wrapF .i64 ((wrapF .i64 (2 * (bif (!(Op.bytesLess s s2 || beqBytes s s2)) then 1 else 0))) - 1) else f57 nn ni nn2 ni2 0 nn.length)) := by
  rw [ne_str, f57n_eq, f85_eq]
  show _ = orC (orC (cmpI k k2) (orC (cmpI n n2) (cmpI e e2))) (orC (cmpS s s2) (orC (cmpN nn nn2) (cmpL ni ni2)))
  rw [orC_as, orC_as]
  unfold mk6
  rw [cmpV]
theorem f57_v (k : Int) (n : Int) (e : Int) (s : Str) (nn : List Str) (x : Bool) (ni : List Val) (y : Bool) (k2 : Int) (n2 : Int) (e2 : Int) (s2 : Str) (nn2 : List Str) (x2 : Bool) (ni2 : List Val) (y2 : Bool) (hP : (nn.length < big ∧ ni.length < big) ∧ ∀ q, q < ni.length → q < ni2.length → Ok57 (vAt ni q) (vAt ni2 q)) : ∀ h, CallOk CB 57 [.agg [.int .i64 k, .int .i64 n, .int .i64 e, .str s, .slT .str nn x, .slT .val ni y], .agg [.int .i64 k2, .int .i64 n2, .int .i64 e2, .str s2, .slT .str nn2 x2, .slT .val ni2 y2]] h none (.val (gI (cmpV (mk6 k n e s nn ni) (mk6 k2 n2 e2 s2 nn2 ni2))) h none) :=
  Classical.byContradiction fun hN => hN (pureS (hs := specOf_off hN) r45_ok Tryz.func57 <| K.e (congrArg gI (f57_eq k n e s nn ni k2 n2 e2 s2 nn2 ni2)) <| K.z gI (fun _ => K.r) (fun _ => K.z gI (fun _ => K.r) (fun _ => K.lc gI 6 nn.length (f57 nn ni nn2 ni2) hP.1.1 (fun i _ N0 hi0 => K.g fun _ => K.wa gI hi0 (fun h3 => K.d ((True ∧ Ix ((i : Nat) : Int) nn) ∧ Ix ((i : Nat) : Int) nn2) ⟨⟨trivial, ix hi0⟩, ix (lt_of_ltB h3)⟩ <| K.z gI (fun _ => K.d ((True ∧ Ix ((i : Nat) : Int) nn) ∧ Ix ((i : Nat) : Int) nn2) ⟨⟨trivial, ix hi0⟩, ix (lt_of_ltB h3)⟩ <| K.r) (fun _ => K.nc 6 N0 hP.1.1 hi0)) (fun h3 => K.z gI (fun _ => K.r) (fun _ => K.i (True ∧ ni.length < big ∧ ∀ q, q < ni.length → q < ni2.length → Ok57 (vAt ni q) (vAt ni2 q)) ⟨trivial, ⟨hP.1.2, hP.2⟩⟩ fun _ => K.r))) (fun _ => K.g fun _ => K.wb nn.length (ltB nn.length nn2.length) <| K.z gI (fun _ => K.r) (fun _ => K.i (True ∧ ni.length < big ∧ ∀ q, q < ni.length → q < ni2.length → Ok57 (vAt ni q) (vAt ni2 q)) ⟨trivial, ⟨hP.1.2, hP.2⟩⟩ fun _ => K.r)))))
theorem f57_w : ∀ (k : Int) (n : Int) (e : Int) (s : Str) (nn : List Str) (x : Bool) (ni : List Val) (y : Bool) (k2 : Int) (n2 : Int) (e2 : Int) (s2 : Str) (nn2 : List Str) (x2 : Bool) (ni2 : List Val) (y2 : Bool) (_ : (mk6 k n e s nn ni).ok) (h : Heap), CallOk CB 57 [.agg [.int .i64 k, .int .i64 n, .int .i64 e, .str s, .slT .str nn x, .slT .val ni y], .agg [.int .i64 k2, .int .i64 n2, .int .i64 e2, .str s2, .slT .str nn2 x2, .slT .val ni2 y2]] h none (.val (gI (cmpV (mk6 k n e s nn ni) (mk6 k2 n2 e2 s2 nn2 ni2))) h none) := by
  have key : ∀ d (v : Val), v.dep < d → v.ok → ∀ (x y : Bool) (k2 : Int) (n2 : Int) (e2 : Int) (s2 : Str) (nn2 : List Str) (x2 : Bool) (ni2 : List Val) (y2 : Bool), ∀ h, CallOk CB 57 [.agg [.int .i64 v.kind, .int .i64 v.n, .int .i64 v.e, .str v.s, .slT .str v.names x, .slT .val v.items y], .agg [.int .i64 k2, .int .i64 n2, .int .i64 e2, .str s2, .slT .str nn2 x2, .slT .val ni2 y2]] h none (.val (gI (cmpV (mk6 v.kind v.n v.e v.s v.names v.items) (mk6 k2 n2 e2 s2 nn2 ni2))) h none) := by
    intro d
    induction d with
    | zero => intro v hv; exact absurd hv (Nat.not_lt_zero _)
    | succ d ih =>
      intro v hv ho x y k2 n2 e2 s2 nn2 x2 ni2 y2
      have o := ok_fields ho
      refine f57_v _ _ _ _ _ _ _ _ _ _ _ _ _ _ _ _ ⟨⟨o.2.1, o.2.2.1⟩, fun i hi hi2 => ?_⟩
      refine ih (vAt v.items i) ?_ (okL_at o.2.2.2.1 hi) false false _ _ _ _ _ _ _ _
      have : (vAt v.items i).dep ≤ depL v.items := depL_at hi
      have e : v.dep = depL v.items + 1 := by cases v; rw [Val.dep]; rfl
      omega
  intro k n e s nn x ni y k2 n2 e2 s2 nn2 x2 ni2 y2 hP
  exact key _ (mk6 k n e s nn ni) (Nat.lt_succ_self _) hP x y k2 n2 e2 s2 nn2 x2 ni2 y2
def r46 : RS := addS r44 57 fun args => match args with | [.agg [.int .i64 k, .int .i64 n, .int .i64 e, .str s, .slT .str nn _, .slT .val ni _], .agg [.int .i64 k2, .int .i64 n2, .int .i64 e2, .str s2, .slT .str nn2 _, .slT .val ni2 _]] => some (gI (cmpV (mk6 k n e s nn ni) (mk6 k2 n2 e2 s2 nn2 ni2)), some ((mk6 k n e s nn ni).ok)) | _ => none
theorem r46_ok : RsOk r46 := RsOk.add r44_ok 57 fun _ _ _ e ho h => by
  split at e
  · cases e; exact f57_w _ _ _ _ _ _ _ _ _ _ _ _ _ _ _ _ ho h
  · cases e
end
end Go.Abs
