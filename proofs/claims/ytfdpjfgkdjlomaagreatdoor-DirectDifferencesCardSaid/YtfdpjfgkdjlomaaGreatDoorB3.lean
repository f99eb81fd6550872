/- A part of the proof of DirectDifferences: see the last text of this claim. -/
import Derived.Test.YtfdpjfgkdjlomaaGreatDoorB2
namespace Go.Abs
noncomputable section
open Go Go.Proofs
def a38 (k : Int) (n : Int) (e : Int) (s : Str) (nn : List Str) (ni : List Val) (k2 : Int) (n2 : Int) (e2 : Int) (s2 : Str) (nn2 : List Str) (ni2 : List Val) : Bool := ((cmpV (mk6 k n e s nn ni) (mk6 k2 n2 e2 s2 nn2 ni2)) == 0)
theorem f38_w (k : Int) (n : Int) (e : Int) (s : Str) (nn : List Str) (x : Bool) (ni : List Val) (y : Bool) (k2 : Int) (n2 : Int) (e2 : Int) (s2 : Str) (nn2 : List Str) (x2 : Bool) (ni2 : List Val) (y2 : Bool) (hP : (mk6 k n e s nn ni).ok) : ∀ h, CallOk CB 38 [.agg [.int .i64 k, .int .i64 n, .int .i64 e, .str s, .slT .str nn x, .slT .val ni y], .agg [.int .i64 k2, .int .i64 n2, .int .i64 e2, .str s2, .slT .str nn2 x2, .slT .val ni2 y2]] h none (.val (gB (a38 k n e s nn ni k2 n2 e2 s2 nn2 ni2)) h none) :=
  pureS r46_ok Tryz.func38 <| K.i (True ∧ (mk6 k n e s nn ni).ok) ⟨trivial, hP⟩ fun _ => K.r
def r47 : RS := addS r46 38 fun args => match args with | [.agg [.int .i64 k, .int .i64 n, .int .i64 e, .str s, .slT .str nn _, .slT .val ni _], .agg [.int .i64 k2, .int .i64 n2, .int .i64 e2, .str s2, .slT .str nn2 _, .slT .val ni2 _]] => some (gB (a38 k n e s nn ni k2 n2 e2 s2 nn2 ni2), some ((mk6 k n e s nn ni).ok)) | _ => none
theorem r47_ok : RsOk r47 := RsOk.add r46_ok 38 fun _ _ _ e ho h => by
  split at e
  · cases e; exact f38_w _ _ _ _ _ _ _ _ _ _ _ _ _ _ _ _ ho h
  · cases e
def a24 (c : Int) (ek : Int) (et : Str) (en : Str) (k : Int) (n : Int) (e : Int) (s : Str) (nn : List Str) (ni : List Val) (eo : Int) (c2 : Int) (ek2 : Int) (et2 : Str) (en2 : Str) (k2 : Int) (n2 : Int) (e2 : Int) (s2 : Str) (nn2 : List Str) (ni2 : List Val) (eo2 : Int) : Bool := (bif (bif (bif (bif (bif (c == c2) then (ek == ek2) else false) then beqBytes et et2 else false) then beqBytes en en2 else false) then (eo == eo2) else false) then a38 k n e s nn ni k2 n2 e2 s2 nn2 ni2 else false)
theorem f24_w (c : Int) (ek : Int) (et : Str) (en : Str) (k : Int) (n : Int) (e : Int) (s : Str) (nn : List Str) (x : Bool) (ni : List Val) (y : Bool) (eo : Int) (c2 : Int) (ek2 : Int) (et2 : Str) (en2 : Str) (k2 : Int) (n2 : Int) (e2 : Int) (s2 : Str) (nn2 : List Str) (x2 : Bool) (ni2 : List Val) (y2 : Bool) (eo2 : Int) (hP : (mk6 k n e s nn ni).ok) : ∀ h, CallOk CB 24 [.agg [.int .i64 c, .int .i64 ek, .str et, .str en, .int .i64 k, .int .i64 n, .int .i64 e, .str s, .slT .str nn x, .slT .val ni y, .int .i64 eo], .agg [.int .i64 c2, .int .i64 ek2, .str et2, .str en2, .int .i64 k2, .int .i64 n2, .int .i64 e2, .str s2, .slT .str nn2 x2, .slT .val ni2 y2, .int .i64 eo2]] h none (.val (gB (a24 c ek et en k n e s nn ni eo c2 ek2 et2 en2 k2 n2 e2 s2 nn2 ni2 eo2)) h none) :=
  pureS r47_ok Tryz.func24 <| K.i (True ∧ ((bif (bif (bif (bif (c == c2) then (ek == ek2) else false) then beqBytes et et2 else false) then beqBytes en en2 else false) then (eo == eo2) else false) = true → (mk6 k n e s nn ni).ok)) ⟨trivial, fun _ => hP⟩ fun _ => K.r
def r48 : RS := addS r47 24 fun args => match args with | [.agg [.int .i64 c, .int .i64 ek, .str et, .str en, .int .i64 k, .int .i64 n, .int .i64 e, .str s, .slT .str nn _, .slT .val ni _, .int .i64 eo], .agg [.int .i64 c2, .int .i64 ek2, .str et2, .str en2, .int .i64 k2, .int .i64 n2, .int .i64 e2, .str s2, .slT .str nn2 _, .slT .val ni2 _, .int .i64 eo2]] => some (gB (a24 c ek et en k n e s nn ni eo c2 ek2 et2 en2 k2 n2 e2 s2 nn2 ni2 eo2), some ((mk6 k n e s nn ni).ok)) | _ => none
theorem r48_ok : RsOk r48 := RsOk.add r47_ok 24 fun _ _ _ e ho h => by
  split at e
  · cases e; exact f24_w _ _ _ _ _ _ _ _ _ _ _ _ _ _ _ _ _ _ _ _ _ _ _ _ _ _ ho h
  · cases e
def f9 (l : List Mev) (l2 : List Mev) : Nat → Nat → Int
  | _, 0 => (bif (((l.length : Nat) : Int) == ((l2.length : Nat) : Int)) then (-1) else (bif decide (((l2.length : Nat) : Int) < ((l.length : Nat) : Int)) then ((l2.length : Nat) : Int) else ((l.length : Nat) : Int)))
  | i, rr + 1 => (bif ltB i l2.length then (bif (!(a24 ((eAt l i).comp) ((eAt l i).kind) ((eAt l i).text) ((eAt l i).name) (((eAt l i).value).kind) (((eAt l i).value).n) (((eAt l i).value).e) (((eAt l i).value).s) (((eAt l i).value).names) (((eAt l i).value).items) ((eAt l i).other) ((eAt l2 i).comp) ((eAt l2 i).kind) ((eAt l2 i).text) ((eAt l2 i).name) (((eAt l2 i).value).kind) (((eAt l2 i).value).n) (((eAt l2 i).value).e) (((eAt l2 i).value).s) (((eAt l2 i).value).names) (((eAt l2 i).value).items) ((eAt l2 i).other))) then ((i : Nat) : Int) else f9 l l2 (i + 1) rr) else (bif (((l.length : Nat) : Int) == ((l2.length : Nat) : Int)) then (-1) else (bif decide (((l2.length : Nat) : Int) < ((l.length : Nat) : Int)) then ((l2.length : Nat) : Int) else ((l.length : Nat) : Int))))
theorem f9_w (l : List Mev) (lx : Bool) (l2 : List Mev) (l2x : Bool) (hP : l.length < big ∧ evOk l) : ∀ h, CallOk CB 9 [.slT .event l lx, .slT .event l2 l2x] h none (.val (gI (f9 l l2 0 l.length)) h none) :=
  pureS r48_ok Tryz.func9 <| K.lc gI 5 l.length (f9 l l2) hP.1 (fun i _ N0 hi0 => K.g fun _ => K.wa gI hi0 (fun h1 => K.d (((True ∧ Ix ((i : Nat) : Int) l) ∧ Ix ((i : Nat) : Int) l2) ∧ (mk6 (((eAt l i).value).kind) (((eAt l i).value).n) (((eAt l i).value).e) (((eAt l i).value).s) (((eAt l i).value).names) (((eAt l i).value).items)).ok) ⟨⟨⟨trivial, ix hi0⟩, ix (lt_of_ltB h1)⟩, ev_ok6 hP.2 hi0⟩ <| K.z gI (fun _ => K.r) (fun _ => K.nc 5 N0 hP.1 hi0)) (fun h1 => K.z gI (fun _ => K.r) (fun _ => K.r))) (fun _ => K.g fun _ => K.wb l.length (ltB l.length l2.length) <| K.z gI (fun _ => K.r) (fun _ => K.r))
def r49 : RS := addS r48 9 fun args => match args with | [.slT .event l _, .slT .event l2 _] => some (gI (f9 l l2 0 l.length), some (l.length < big ∧ evOk l)) | _ => none
theorem r49_ok : RsOk r49 := RsOk.add r48_ok 9 fun _ _ _ e ho h => by
  split at e
  · cases e; exact f9_w _ _ _ _ ho h
  · cases e
theorem ix_pv {l : List Val} {i : Nat} (hP : l.length < big) (h : i < l.length - 1) : Ix (wrapF .i64 (((1 + i : Nat) : Int) - 1)) l := by
  unfold big at hP
  rw [wrap64 (by omega) (by omega)]
  exact ⟨by omega, by omega⟩
theorem ok_pv {l : List Val} {i : Nat} (hP : l.length < big) (ho : okL l) (h : i < l.length - 1) : (m6 (vAt l (wrapF .i64 (((1 + i : Nat) : Int) - 1)).toNat)).ok := by
  unfold big at hP
  rw [wrap64 (by omega) (by omega)]
  exact okI ho (by omega) (by omega)
theorem hl_1n {n : Nat} (h : n < big) : n - 1 < big := by omega
theorem hl_on {n : Nat} (h : n < big) : 1 + (n - 1) < big := by unfold big at *; omega
def f127c (k : Int) (n : Int) (e : Int) (s : Str) (nn : List Str) (ni : List Val) : Nat → Nat → Int
  | _, 0 => 0
  | i2, rr + 1 => (bif (k == 11) then (bif decide ((cmpV (mk6 ((vAt ni (wrapF .i64 (((1 + i2 : Nat) : Int) - 1)).toNat).kind) ((vAt ni (wrapF .i64 (((1 + i2 : Nat) : Int) - 1)).toNat).n) ((vAt ni (wrapF .i64 (((1 + i2 : Nat) : Int) - 1)).toNat).e) ((vAt ni (wrapF .i64 (((1 + i2 : Nat) : Int) - 1)).toNat).s) ((vAt ni (wrapF .i64 (((1 + i2 : Nat) : Int) - 1)).toNat).names) ((vAt ni (wrapF .i64 (((1 + i2 : Nat) : Int) - 1)).toNat).items)) (mk6 ((vAt ni (1 + i2)).kind) ((vAt ni (1 + i2)).n) ((vAt ni (1 + i2)).e) ((vAt ni (1 + i2)).s) ((vAt ni (1 + i2)).names) ((vAt ni (1 + i2)).items))) > 0) then 14 else f127c k n e s nn ni (i2 + 1) rr) else 0)
def f127b (k : Int) (n : Int) (e : Int) (s : Str) (nn : List Str) (ni : List Val) : Nat → Nat → Int
  | _, 0 => f127c k n e s nn ni 0 (ni.length - 1)
  | i1, rr + 1 => (bif ((f217 nn (sAt nn i1) 0 nn.length) != ((i1 : Nat) : Int)) then 13 else f127b k n e s nn ni (i1 + 1) rr)
def f127a (k : Int) (n : Int) (e : Int) (s : Str) (nn : List Str) (ni : List Val) : Nat → Nat → Int
  | _, 0 => f127b k n e s nn ni 0 nn.length
  | i, rr + 1 => (bif (!(a216 (sAt nn i))) then 7 else f127a k n e s nn ni (i + 1) rr)
def a127 (k : Int) (n : Int) (e : Int) (s : Str) (nn : List Str) (ni : List Val) : Int := (bif (!(a213 k)) then 4 else (bif (bif (bif (bif (bif (e != 0) then true else (bif (!(bif (bif (k == 1) then true else (k == 2)) then true else (k == 14))) then (n != 0) else false)) then true else (bif (!(a214 k 3 6)) then !(beqBytes s []) else false)) then true else (bif (!(bif (k == 9) then true else (k == 12))) then decide (((nn.length : Nat) : Int) > 0) else false)) then true else (bif (!(a214 k 9 12)) then decide (((ni.length : Nat) : Int) > 0) else false)) then 5 else (bif (bif (bif (k == 1) then (!(a214 n 0 1)) else false) then true else (bif (k == 14) then (!(a214 n 0 4)) else false)) then 5 else (bif (bif (bif (bif (k == 9) then true else (k == 12)) then (((nn.length : Nat) : Int) != ((ni.length : Nat) : Int)) else false) then true else (bif (k == 12) then (((ni.length : Nat) : Int) != 1) else false)) then 6 else (bif (bif (bif decide (((lenN s : Nat) : Int) > 200) then true else (bif (k == 9) then decide (((ni.length : Nat) : Int) > 16) else false)) then true else decide (((ni.length : Nat) : Int) > 40)) then 2 else (bif (bif (bif (k == 2) then (!(a214 n (-1152921504606846976) 1152921504606846976)) else false) then true else (!(f215 k s 0 (lenN s)))) then 3 else (bif (bif (k == 3) then (!(a216 s)) else false) then 7 else f127a k n e s nn ni 0 nn.length)))))))
theorem f127_w (k : Int) (n : Int) (e : Int) (s : Str) (nn : List Str) (x : Bool) (ni : List Val) (y : Bool) (hP : (mk6 k n e s nn ni).ok) : ∀ h, CallOk CB 127 [.agg [.int .i64 k, .int .i64 n, .int .i64 e, .str s, .slT .str nn x, .slT .val ni y]] h none (.val (gI (a127 k n e s nn ni)) h none) :=
  pureS r49_ok Tryz.func127 <| K.z gI (fun _ => K.r) (fun _ => K.g fun _ => K.g fun _ => K.g fun _ => K.z gI (fun _ => K.r) (fun _ => K.g fun _ => K.z gI (fun _ => K.r) (fun _ => K.g fun _ => K.z gI (fun _ => K.r) (fun _ => K.g fun _ => K.z gI (fun _ => K.r) (fun _ => K.i (True ∧ ((bif (k == 2) then (!(a214 n (-1152921504606846976) 1152921504606846976)) else false) = false → s.length < big)) ⟨trivial, fun _ => (ok_of hP).1⟩ fun _ => K.z gI (fun _ => K.r) (fun _ => K.i (True ∧ ((k == 3) = true → s.length < big)) ⟨trivial, fun _ => (ok_of hP).1⟩ fun _ => K.z gI (fun _ => K.r) (fun _ => K.lc gI 8 nn.length (f127a k n e s nn ni) (ok_of hP).2.1 (fun i _ N0 hi0 => K.w1 hi0 <| K.i ((True ∧ Ix ((i : Nat) : Int) nn) ∧ (sAt nn i).length < big) ⟨⟨trivial, ix hi0⟩, strs_at (ok_of hP).2.2.2.2 hi0⟩ fun _ => K.z gI (fun _ => K.r) (fun _ => K.nc 8 N0 (ok_of hP).2.1 hi0)) (fun _ => K.w0 nn.length <| K.lc gI 9 nn.length (f127b k n e s nn ni) (ok_of hP).2.1 (fun i1 _ N1 hi1 => K.w1 hi1 <| K.d ((True ∧ Ix ((i1 : Nat) : Int) nn) ∧ nn.length < big) ⟨⟨trivial, ix hi1⟩, (ok_of hP).2.1⟩ <| K.z gI (fun _ => K.r) (fun _ => K.nc 9 N1 (ok_of hP).2.1 hi1)) (fun _ => K.w0 nn.length <| K.lo gI 1 10 (ni.length - 1) (f127c k n e s nn ni) (hl_1n (ok_of hP).2.2.1) (fun i2 _ N2 hi2 => K.g fun _ => K.wa gI (lt_off hi2) (fun h10 => K.d (((True ∧ Ix (wrapF .i64 (((1 + i2 : Nat) : Int) - 1)) ni) ∧ Ix ((1 + i2 : Nat) : Int) ni) ∧ (mk6 ((vAt ni (wrapF .i64 (((1 + i2 : Nat) : Int) - 1)).toNat).kind) ((vAt ni (wrapF .i64 (((1 + i2 : Nat) : Int) - 1)).toNat).n) ((vAt ni (wrapF .i64 (((1 + i2 : Nat) : Int) - 1)).toNat).e) ((vAt ni (wrapF .i64 (((1 + i2 : Nat) : Int) - 1)).toNat).s) ((vAt ni (wrapF .i64 (((1 + i2 : Nat) : Int) - 1)).toNat).names) ((vAt ni (wrapF .i64 (((1 + i2 : Nat) : Int) - 1)).toNat).items)).ok) ⟨⟨⟨trivial, ix_pv (ok_of hP).2.2.1 hi2⟩, ix (lt_off hi2)⟩, ok_pv (ok_of hP).2.2.1 (ok_of hP).2.2.2.1 hi2⟩ <| K.z gI (fun _ => K.r) (fun _ => K.nco 1 10 N2 (hl_on (ok_of hP).2.2.1) hi2)) (fun h10 => K.r)) (fun _ => K.g fun _ => K.wbo 1 ni.length (k == 11) <| K.r))))))))))
def r50 : RS := addS r49 127 fun args => match args with | [.agg [.int .i64 k, .int .i64 n, .int .i64 e, .str s, .slT .str nn _, .slT .val ni _]] => some (gI (a127 k n e s nn ni), some ((mk6 k n e s nn ni).ok)) | _ => none
theorem r50_ok : RsOk r50 := RsOk.add r49_ok 127 fun _ _ _ e ho h => by
  split at e
  · cases e; exact f127_w _ _ _ _ _ _ _ _ ho h
  · cases e
end
end Go.Abs
namespace Go.Abs
noncomputable section
open Go Go.Proofs
mutual
/-- the first error of a value and of those within it, the reference's -/
def plW : Val → Int
  | .mk k n e s _ names _ items => bif a127 k n e s names items != 0 then a127 k n e s names items else plWL items
def plWL : List Val → Int
  | [] => 0
  | v :: l => bif plW v != 0 then plW v else plWL l
end
theorem plW_6 (v : Val) : plW (mk6 v.kind v.n v.e v.s v.names v.items) = plW v := by cases v; unfold mk6; rw [plW, plW]; rfl
def s84 : List AV → Option AV := fun args => match args with | [.agg [.int .i64 k, .int .i64 n, .int .i64 e, .str s, .slT .str nn _, .slT .val ni _]] => some (gI (plW (mk6 k n e s nn ni))) | _ => none
def q84 : RS := addS r50 84 (selfS 84 s84)
theorem q84_ok : RsOk q84 := r50_ok.add 84 selfS_ok
/-- it is so, of values that stand in a list -/
def Ok84 (a : Val) : Prop := ∀ h, CallOk CB 84 [.agg [.int .i64 a.kind, .int .i64 a.n, .int .i64 a.e, .str a.s, .slT .str a.names false, .slT .val a.items false]] h none (.val (gI (plW (mk6 a.kind a.n a.e a.s a.names a.items))) h none)
def f84 (ni : List Val) : Nat → Nat → Int
  | _, 0 => 0
  | i, rr + 1 => (bif ((plW (mk6 ((vAt ni i).kind) ((vAt ni i).n) ((vAt ni i).e) ((vAt ni i).s) ((vAt ni i).names) ((vAt ni i).items))) != 0) then plW (mk6 ((vAt ni i).kind) ((vAt ni i).n) ((vAt ni i).e) ((vAt ni i).s) ((vAt ni i).names) ((vAt ni i).items)) else f84 ni (i + 1) rr)
theorem f84l_eq (ni : List Val) : f84 ni 0 ni.length = plWL ni := by
  refine scan_eq ni (f84 ni) (fun _ => plWL) (fun i => by show (0 : Int) = _; rw [plWL]) (fun i m x r hi hx ih => ?_)
  show (bif plW (mk6 (vAt ni i).kind (vAt ni i).n (vAt ni i).e (vAt ni i).s (vAt ni i).names (vAt ni i).items) != 0 then plW (mk6 (vAt ni i).kind (vAt ni i).n (vAt ni i).e (vAt ni i).s (vAt ni i).names (vAt ni i).items) else f84 ni (i + 1) m) = plWL (x :: r)
  have e1 : vAt ni i = x := hx
  rw [plW_6, ih, e1, plWL]
theorem f84_eq (k n e : Int) (s : Str) (nn : List Str) (ni : List Val) : plW (mk6 k n e s nn ni) = bif a127 k n e s nn ni != 0 then a127 k n e s nn ni else f84 ni 0 ni.length := by
  rw [f84l_eq]; unfold mk6; rw [plW]
theorem f84_v (k : Int) (n : Int) (e : Int) (s : Str) (nn : List Str) (x : Bool) (ni : List Val) (y : Bool) (hP : (mk6 k n e s nn ni).ok ∧ ∀ i, i < ni.length → Ok84 (vAt ni i)) : ∀ h, CallOk CB 84 [.agg [.int .i64 k, .int .i64 n, .int .i64 e, .str s, .slT .str nn x, .slT .val ni y]] h none (.val (gI (plW (mk6 k n e s nn ni))) h none) :=
  Classical.byContradiction fun hN => hN (pureS (hs := specOf_off hN) q84_ok Tryz.func84 <| K.e (congrArg gI (f84_eq k n e s nn ni)) <| K.i (True ∧ (mk6 k n e s nn ni).ok) ⟨trivial, hP.1⟩ fun _ => K.z gI (fun _ => K.r) (fun _ => K.lc gI 4 ni.length (f84 ni) (ok_of hP.1).2.2.1 (fun i _ N0 hi0 => K.w1 hi0 <| K.i ((True ∧ Ix ((i : Nat) : Int) ni) ∧ ∀ h, CallOk CB 84 [.agg [.int .i64 ((vAt ni i).kind), .int .i64 ((vAt ni i).n), .int .i64 ((vAt ni i).e), .str ((vAt ni i).s), .slT .str ((vAt ni i).names) false, .slT .val ((vAt ni i).items) false]] h none (.val (gI (plW (mk6 ((vAt ni i).kind) ((vAt ni i).n) ((vAt ni i).e) ((vAt ni i).s) ((vAt ni i).names) ((vAt ni i).items)))) h none)) ⟨⟨trivial, ix hi0⟩, hP.2 i hi0⟩ fun _ => K.z gI (fun _ => K.r) (fun _ => K.nc 4 N0 (ok_of hP.1).2.2.1 hi0)) (fun _ => K.w0 ni.length <| K.r)))
theorem f84_w (k : Int) (n : Int) (e : Int) (s : Str) (nn : List Str) (x : Bool) (ni : List Val) (y : Bool) (hP : (mk6 k n e s nn ni).ok) : ∀ (h : Heap), CallOk CB 84 [.agg [.int .i64 k, .int .i64 n, .int .i64 e, .str s, .slT .str nn x, .slT .val ni y]] h none (.val (gI (plW (mk6 k n e s nn ni))) h none) := by
  have key : ∀ d (v : Val), v.dep < d → v.ok → ∀ (x y : Bool), ∀ h, CallOk CB 84 [.agg [.int .i64 v.kind, .int .i64 v.n, .int .i64 v.e, .str v.s, .slT .str v.names x, .slT .val v.items y]] h none (.val (gI (plW (mk6 v.kind v.n v.e v.s v.names v.items))) h none) := by
    intro d
    induction d with
    | zero => intro v hv; exact absurd hv (Nat.not_lt_zero _)
    | succ d ih =>
      intro v hv ho x y
      have o := ok_fields ho
      refine f84_v _ _ _ _ _ _ _ _ ⟨ok6 ho, fun i hi => ?_⟩
      refine ih (vAt v.items i) ?_ (okL_at o.2.2.2.1 hi) false false
      have : (vAt v.items i).dep ≤ depL v.items := depL_at hi
      have e : v.dep = depL v.items + 1 := by cases v; rw [Val.dep]; rfl
      omega
  exact key _ (mk6 k n e s nn ni) (Nat.lt_succ_self _) hP x y
def r51 : RS := addS r50 84 fun args => match args with | [.agg [.int .i64 k, .int .i64 n, .int .i64 e, .str s, .slT .str nn _, .slT .val ni _]] => some (gI (plW (mk6 k n e s nn ni)), some ((mk6 k n e s nn ni).ok)) | _ => none
theorem r51_ok : RsOk r51 := RsOk.add r50_ok 84 fun _ _ _ e ho h => by
  split at e
  · cases e; exact f84_w _ _ _ _ _ _ _ _ ho h
  · cases e
theorem sizerV_6 (v : Val) (lv : Int) (z : Int × Bool) : sizerV v lv z = sizerV (mk6 v.kind v.n v.e v.s v.names v.items) lv z := by cases v; unfold mk6; rw [sizerV, sizerV]; rfl
def mtB (z : Int × Bool) (lv : Int) : Bool := bif (bif z.2 then true else decide (wrapF .i64 (z.1 - 1) < 0)) then true else decide (lv < 1)
theorem mtB_eq (z : Int × Bool) (lv : Int) : meetO z.1 z.2 lv = mtB z lv := by
  unfold meetO mtB
  cases z.2 <;> cases decide (wrapF .i64 (z.1 - 1) < 0) <;> rfl
theorem f52_c {m : Nat} (z : Int × Bool) (lv : Int) {j g ver : Nat} {h : Heap} (hg : h.get j = some (bk g 80 true ver [.int .i64 z.1, .bool z.2])) :
    (fns (Cs r51) (m + 2)).call 52 [.ptrO j 0, .int .i64 lv] h none = some (.val (.bool (!(mtB z lv))) (h.set j (bk g 80 true (Nat.succ ver) [.int .i64 (wrapF .i64 (z.1 - 1)), .bool (mtB z lv)])) none) :=
  ownS (n := m + 1) (p := (.bool (!(mtB z lv)), [.int .i64 (wrapF .i64 (z.1 - 1)), .bool (mtB z lv)])) Tryz.func52 (hg := hg) <| K.g fun _ => K.ro
def g29 (z : Int × Bool) : AV × List AV := (.tup [], [.int .i64 z.1, .bool z.2])
def hd29 (B : St) (i : Nat) (a : (Int × Bool) × Nat) : St := { n := B.n, tm := B.tm.put 6 (.int .i64 ((i : Nat) : Int)), h := B.h.set 0 (bk 0 80 true a.2 [.int .i64 a.1.1, .bool a.1.2]), ds := B.ds, pn := B.pn }
theorem sizer_eq (k n e : Int) (s : Str) (nn : List Str) (ni : List Val) (lv : Int) (z : Int × Bool) : sizerV (mk6 k n e s nn ni) lv z = bif !(!(mtB z lv)) then (wrapF .i64 (z.1 - 1), mtB z lv) else sizerL ni (wrapF .i64 (lv - 1)) (wrapF .i64 (z.1 - 1), mtB z lv) := by
  unfold mk6
  rw [sizerV, mtB_eq, Bool.not_not]
theorem f29_v (m : Nat) (k n e : Int) (s : Str) (nn : List Str) (x : Bool) (ni : List Val) (y : Bool) (lv : Int) (z : Int × Bool) (hl : ni.length < big)
    (ih : ∀ i, i < ni.length → ∀ (a : Int × Bool) {j g ver : Nat} {h : Heap}, h.get j = some (bk g 80 true ver [.int .i64 a.1, .bool a.2]) → (fns (Cs r51) (m + 2)).call 29 [.ptrO j 0, six (vAt ni i), .int .i64 (wrapF .i64 (lv - 1))] h none = some (.val (.tup []) (h.set j (bk g 80 true (Nat.succ ver) (g29 (sizerV (vAt ni i) (wrapF .i64 (lv - 1)) a)).2)) none))
    {j g ver : Nat} {h : Heap} (hg : h.get j = some (bk g 80 true ver [.int .i64 z.1, .bool z.2])) :
    (fns (Cs r51) (m + 3)).call 29 [.ptrO j 0, .agg [.int .i64 k, .int .i64 n, .int .i64 e, .str s, .slT .str nn x, .slT .val ni y], .int .i64 lv] h none = some (.val (.tup []) (h.set j (bk g 80 true (Nat.succ ver) (g29 (sizerV (mk6 k n e s nn ni) lv z)).2)) none) :=
  ownS (n := m + 2) (p := g29 (sizerV (mk6 k n e s nn ni) lv z)) Tryz.func29 (hg := hg) <| K.e (congrArg g29 (sizer_eq k n e s nn ni lv z)) <| K.co (j := 0) (g := 0) (ver := 0) (fun h hg => f52_c z lv hg) <| K.z g29 (fun _ => K.ro) (fun _ =>
    K.l ni.length hd29 (fun _ _ => True) (fun i a => g29 (sizerL (ni.drop i) (wrapF .i64 (lv - 1)) a.1)) ((wrapF .i64 (z.1 - 1), mtB z lv), 1) hl trivial fun i a Rn N hi _ => by
      rcases Nat.lt_or_ge i ni.length with hlt | hge
      · have e1 : sizerL (ni.drop i) (wrapF .i64 (lv - 1)) a.1 = bif !a.1.2 then sizerL (ni.drop (i + 1)) (wrapF .i64 (lv - 1)) (sizerV (vAt ni i) (wrapF .i64 (lv - 1)) a.1) else a.1 := by
          rw [drop_at hlt, sizerL]; cases a.1.2 <;> rfl
        exact K.e (congrArg g29 e1) <| K.g fun _ => K.wa g29 hlt (fun _ => K.im 1 (True ∧ Ix ((i : Nat) : Int) ni) ⟨trivial, ix hlt⟩ fun _ => K.co (j := 0) (g := 0) (ver := a.2) (fun h hg => ih i hlt a.1 hg) <|
          K.p 6 (congrArg (AV.int .i64) (wrap_succ hlt (big_le hl))) <| K.n N (sizerV (vAt ni i) (wrapF .i64 (lv - 1)) a.1, a.2 + 1) hlt trivial) (fun _ => K.ro)
      · obtain rfl : i = ni.length := by omega
        have e1 : sizerL (ni.drop ni.length) (wrapF .i64 (lv - 1)) a.1 = a.1 := by rw [List.drop_length, sizerL]
        exact K.e (congrArg g29 e1) <| K.g fun _ => K.wb ni.length (!a.1.2) <| K.ro)
theorem f29_c : ∀ d (v : Val), v.dep ≤ d → v.ok → ∀ m, d ≤ m → ∀ (lv : Int) (z : Int × Bool) {j g ver : Nat} {h : Heap}, h.get j = some (bk g 80 true ver [.int .i64 z.1, .bool z.2]) →
    (fns (Cs r51) (m + 3)).call 29 [.ptrO j 0, six v, .int .i64 lv] h none = some (.val (.tup []) (h.set j (bk g 80 true (Nat.succ ver) (g29 (sizerV v lv z)).2)) none)
  | 0, v, hd, _, _, _, _, _, _, _, _, _, _ => by cases v; rw [Val.dep] at hd; omega
  | d + 1, v, hd, ho, m, hm, lv, z, j, g, ver, h, hg => by
    obtain ⟨m, rfl⟩ : ∃ q, m = q + 1 := ⟨m - 1, by omega⟩
    have o := ok_fields ho
    rw [sizerV_6]
    refine f29_v (m + 1) _ _ _ _ _ _ _ _ _ _ o.2.2.1 (fun i hi a j g ver h hg => ?_) hg
    refine f29_c d (vAt v.items i) ?_ (okL_at o.2.2.2.1 hi) m (by omega) _ _ hg
    have : (vAt v.items i).dep ≤ depL v.items := depL_at hi
    have e : v.dep = depL v.items + 1 := by cases v; rw [Val.dep]; rfl
    omega
theorem f83_w (k n e : Int) (s : Str) (nn : List Str) (x : Bool) (ni : List Val) (y : Bool) (z : Int) (hP : (mk6 k n e s nn ni).ok) : ∀ h, CallOk CB 83 [.agg [.int .i64 k, .int .i64 n, .int .i64 e, .str s, .slT .str nn x, .slT .val ni y], .int .i64 z] h none (.val (gB (smallB (mk6 k n e s nn ni) z)) h none) :=
  pureN r51_ok (depL ni + 4) Tryz.func83 <| K.co (j := 1) (g := 1) (ver := 0) (fun h hg => f29_v (depL ni + 1) k n e s nn x ni y 8 (z, false) (ok_of hP).2.2.1 (fun i hi a j g ver h hg => f29_c _ (vAt ni i) (depL_at hi) (okL_at (ok_of hP).2.2.2.1 hi) (depL ni) (Nat.le_refl _) _ _ hg) hg) <| K.r
def r52 : RS := addS r51 83 fun args => match args with | [.agg [.int .i64 k, .int .i64 n, .int .i64 e, .str s, .slT .str nn _, .slT .val ni _], .int .i64 z] => some (gB (smallB (mk6 k n e s nn ni) z), some ((mk6 k n e s nn ni).ok)) | _ => none
theorem r52_ok : RsOk r52 := RsOk.add r51_ok 83 fun _ _ _ e ho h => by
  split at e
  · cases e; exact f83_w _ _ _ _ _ _ _ _ _ ho h
  · cases e
def a56 (k : Int) (n : Int) (e : Int) (s : Str) (nn : List Str) (ni : List Val) : Int := (bif (!(smallB (mk6 k n e s nn ni) 120)) then 2 else plW (mk6 k n e s nn ni))
theorem f56_w (k : Int) (n : Int) (e : Int) (s : Str) (nn : List Str) (x : Bool) (ni : List Val) (y : Bool) (hP : (mk6 k n e s nn ni).ok) : ∀ h, CallOk CB 56 [.agg [.int .i64 k, .int .i64 n, .int .i64 e, .str s, .slT .str nn x, .slT .val ni y]] h none (.val (gI (a56 k n e s nn ni)) h none) :=
  pureS r52_ok Tryz.func56 <| K.i (True ∧ (mk6 k n e s nn ni).ok) ⟨trivial, hP⟩ fun _ => K.z gI (fun _ => K.r) (fun _ => K.i (True ∧ (mk6 k n e s nn ni).ok) ⟨trivial, hP⟩ fun _ => K.r)
def r53 : RS := addS r52 56 fun args => match args with | [.agg [.int .i64 k, .int .i64 n, .int .i64 e, .str s, .slT .str nn _, .slT .val ni _]] => some (gI (a56 k n e s nn ni), some ((mk6 k n e s nn ni).ok)) | _ => none
theorem r53_ok : RsOk r53 := RsOk.add r52_ok 56 fun _ _ _ e ho h => by
  split at e
  · cases e; exact f56_w _ _ _ _ _ _ _ _ ho h
  · cases e
theorem f37_w (k : Int) (n : Int) (e : Int) (s : Str) (nn : List Str) (x : Bool) (ni : List Val) (y : Bool) (hP : (mk6 k n e s nn ni).ok) : ∀ h, CallOk CB 37 [.agg [.int .i64 k, .int .i64 n, .int .i64 e, .str s, .slT .str nn x, .slT .val ni y]] h none (.val (gB (((a56 k n e s nn ni) == 0))) h none) :=
  pureS r53_ok Tryz.func37 <| K.i (True ∧ (mk6 k n e s nn ni).ok) ⟨trivial, hP⟩ fun _ => K.r
def r54 : RS := addS r53 37 fun args => match args with | [.agg [.int .i64 k, .int .i64 n, .int .i64 e, .str s, .slT .str nn _, .slT .val ni _]] => some (gB (((a56 k n e s nn ni) == 0)), some ((mk6 k n e s nn ni).ok)) | _ => none
theorem r54_ok : RsOk r54 := RsOk.add r53_ok 37 fun _ _ _ e ho h => by
  split at e
  · cases e; exact f37_w _ _ _ _ _ _ _ _ ho h
  · cases e
theorem f22_w (k : Int) (n : Int) (e : Int) (s : Str) (nn : List Str) (x : Bool) (ni : List Val) (y : Bool) (hP : (mk6 k n e s nn ni).ok) : ∀ h, CallOk CB 22 [.agg [.int .i64 k, .int .i64 n, .int .i64 e, .str s, .slT .str nn x, .slT .val ni y]] h none (.val (gB (((a56 k n e s nn ni) == 0))) h none) :=
  pureS r54_ok Tryz.func22 <| K.i (True ∧ (mk6 k n e s nn ni).ok) ⟨trivial, hP⟩ fun _ => K.r
def r55 : RS := addS r54 22 fun args => match args with | [.agg [.int .i64 k, .int .i64 n, .int .i64 e, .str s, .slT .str nn _, .slT .val ni _]] => some (gB (((a56 k n e s nn ni) == 0)), some ((mk6 k n e s nn ni).ok)) | _ => none
theorem r55_ok : RsOk r55 := RsOk.add r54_ok 22 fun _ _ _ e ho h => by
  split at e
  · cases e; exact f22_w _ _ _ _ _ _ _ _ ho h
  · cases e
end
end Go.Abs
namespace Go.Abs
noncomputable section
open Go Go.Proofs
theorem f20_w (l : List Int) (x : Bool) (hP : roomOk l.length 8 = true) : ∀ h, CallOk CB 20 [.slT .int l x] h none (.val (.slT .int l false) h none) := by
  by_cases hl : l = []
  · subst hl
    have k : ∀ h, CallOk CB 20 [.slT .int [] x] h none (.val (.slR [] 0 0 0 false) h none) := pureS r55_ok Tryz.func20 <| K.st 1 <| K.r
    exact fun h => (k h).weak (fun w F μ u r => slR_T (t := .int) (l := []) r)
  · have k : ∀ h, CallOk CB 20 [.slT .int l x] h none (.val (.slR (flatT .int l) 0 l.length l.length false) h none) := pureS r55_ok Tryz.func20 <| K.ap 22 3 0 1 8 (pt := .int) (l := l) (b := x) hl hP <| K.rf (v1 := .slO 1 0 1 l.length l.length false) (freeze_slO (n := 62) (t := .int) (l := l) (by kernel_rfl) rfl)
    exact fun h => (k h).weak (fun w F μ u r => slR_T r)
def r56 : RS := addS r55 20 fun args => match args with | [.slT .int l _] => some (.slT .int l false, some (roomOk l.length 8 = true)) | _ => none
theorem r56_ok : RsOk r56 := RsOk.add r55_ok 20 fun _ _ _ e ho h => by
  split at e
  · cases e; exact f20_w _ _ ho h
  · cases e
theorem f25_w (l : List Str) (x : Bool) (hP : roomOk l.length 16 = true) : ∀ h, CallOk CB 25 [.slT .str l x] h none (.val (.slT .str l false) h none) := by
  by_cases hl : l = []
  · subst hl
    have k : ∀ h, CallOk CB 25 [.slT .str [] x] h none (.val (.slR [] 0 0 0 false) h none) := pureS r56_ok Tryz.func25 <| K.st 1 <| K.r
    exact fun h => (k h).weak (fun w F μ u r => slR_T (t := .str) (l := []) r)
  · have k : ∀ h, CallOk CB 25 [.slT .str l x] h none (.val (.slR (flatT .str l) 0 l.length l.length false) h none) := pureS r56_ok Tryz.func25 <| K.ap 38 9 0 1 16 (pt := .str) (l := l) (b := x) hl hP <| K.rf (v1 := .slO 1 0 1 l.length l.length false) (freeze_slO (n := 62) (t := .str) (l := l) (by kernel_rfl) rfl)
    exact fun h => (k h).weak (fun w F μ u r => slR_T r)
def r57 : RS := addS r56 25 fun args => match args with | [.slT .str l _] => some (.slT .str l false, some (roomOk l.length 16 = true)) | _ => none
theorem r57_ok : RsOk r57 := RsOk.add r56_ok 25 fun _ _ _ e ho h => by
  split at e
  · cases e; exact f25_w _ _ ho h
  · cases e
end
end Go.Abs
namespace Go.Abs
noncomputable section
open Go Go.Proofs
def hd17 (B : St) (i : Nat) (a : (Int × Bool) × Nat) : St := { n := B.n, tm := B.tm.put 8 (.int .i64 ((i : Nat) : Int)), h := B.h.set 0 (bk 0 80 true a.2 [.int .i64 a.1.1, .bool a.1.2]), ds := B.ds, pn := B.pn }
def g17 (v : Val) (lv : Int) (i : Nat) (a : (Int × Bool) × Nat) : AV := match i with | 0 => gB (!(sizerV v lv a.1).2) | _ + 1 => gB (!a.1.2)
theorem f17_w (k n e : Int) (s : Str) (nn : List Str) (x : Bool) (ni : List Val) (y : Bool) (z lv : Int) (hP : (mk6 k n e s nn ni).ok) : ∀ h, CallOk CB 17 [.slR [.int .i64 k, .int .i64 n, .int .i64 e, .str s, .slT .str nn x, .slT .val ni y] 0 1 1 false, .int .i64 z, .int .i64 lv] h none (.val (gB (!(sizerV (mk6 k n e s nn ni) lv (z, false)).2)) h none) :=
  have hc : ∀ h : Heap, h.get 0 = some (bk 0 80 true 0 [.int .i64 z, .bool false]) → (fns (Cs r51) (depL ni + 4)).call 29 [.ptrO 0 0, .agg [.int .i64 k, .int .i64 n, .int .i64 e, .str s, .slT .str nn x, .slT .val ni y], .int .i64 lv] h none = some (.val (.tup []) (h.set 0 (bk 0 80 true (Nat.succ 0) (g29 (sizerV (mk6 k n e s nn ni) lv (z, false))).2)) none) :=
    fun h hg => f29_v (m := depL ni + 1) k n e s nn x ni y lv (z, false) (ok_of hP).2.2.1 (fun i hi a j g ver h hg => f29_c _ (vAt ni i) (depL_at hi) (okL_at (ok_of hP).2.2.2.1 hi) (depL ni) (Nat.le_refl _) _ _ hg) hg
  pureN r51_ok (depL ni + 4) Tryz.func17 <| K.l 1 hd17 (fun i a => i = 0 → a = ((z, false), 0)) (g17 (mk6 k n e s nn ni) lv) ((z, false), 0) (by decide) (fun _ => rfl) fun i a Rn N hi hp => by
    rcases Nat.lt_or_ge i 1 with hlt | hge
    · obtain rfl : i = 0 := by omega
      obtain rfl := hp rfl
      exact K.g fun _ => K.t <| K.co (j := 0) (g := 0) (ver := 0) hc <| K.n N (sizerV (mk6 k n e s nn ni) lv (z, false), 1) (by decide) (fun h => by cases h)
    · obtain rfl : i = 1 := by omega
      exact K.g fun _ => K.f <| K.r
def r58 : RS := addS r57 17 fun args => match args with | [.slR [.int .i64 k, .int .i64 n, .int .i64 e, .str s, .slT .str nn _, .slT .val ni _] 0 1 1 false, .int .i64 z, .int .i64 lv] => some (gB (!(sizerV (mk6 k n e s nn ni) lv (z, false)).2), some ((mk6 k n e s nn ni).ok)) | _ => none
theorem r58_ok : RsOk r58 := RsOk.add r57_ok 17 fun _ _ _ e ho h => by
  split at e
  · cases e; exact f17_w _ _ _ _ _ _ _ _ _ _ ho h
  · cases e
end
end Go.Abs
namespace Go.Abs
noncomputable section
open Go Go.Proofs
def lightB (l : List Mev) (i : Nat) : Bool := !(sizerV (mk6 (eAt l i).value.kind (eAt l i).value.n (eAt l i).value.e (eAt l i).value.s (eAt l i).value.names (eAt l i).value.items) 20 (400, false)).2
def longE (l : List Mev) (i : Nat) : Bool := bif decide (((lenN (eAt l i).text : Nat) : Int) > 400) then true else decide (((lenN (eAt l i).name : Nat) : Int) > 400)
def f5 (l : List Mev) : Nat → Nat → Bool
  | _, 0 => decide (((l.length : Nat) : Int) ≤ 200)
  | i, rr + 1 => bif decide (((i : Nat) : Int) ≤ 200) then (bif longE l i then false else (bif !(lightB l i) then false else f5 l (i + 1) rr)) else decide (((l.length : Nat) : Int) ≤ 200)
theorem f5_w (ch : List Int) (cx : Bool) (ev : List Mev) (ex : Bool) (vd : List Int) (vx : Bool) (st : Int) (hP : ev.length < big ∧ evOk ev) : ∀ h, CallOk CB 5 [.agg [.slT .int ch cx, .slT .event ev ex, .slT .int vd vx, .int .i64 st]] h none (.val (gB (f5 ev 0 ev.length)) h none) :=
  pureS r58_ok Tryz.func5 <| K.lc gB 3 ev.length (f5 ev) hP.1 (fun i _ N0 hi0 => K.g fun _ => K.wa gB hi0 (fun _ =>
    K.im 16 ((True ∧ Ix ((i : Nat) : Int) ev) ∧ (decide (((lenN (eAt ev i).text : Nat) : Int) > 400) = false → Ix ((i : Nat) : Int) ev)) ⟨⟨trivial, ix hi0⟩, fun _ => ix hi0⟩ fun _ =>
    K.sp gB 33 (b := longE ev i) (fun _ => K.st 10 <| K.t <| K.r)
      (fun _ => K.st 3 <| K.xi .event ev ((i : Nat) : Int) (ix hi0) <| K.st 3 <| K.kr 17 [.slO 1 0 6 1 1 true, .int .i64 400, .int .i64 20] (gB (lightB ev i)) _ (ev_ok6 hP.2 hi0) <| K.st 2 <| K.z gB (fun _ => K.r) (fun _ => K.nc 3 N0 hP.1 hi0)))
    (fun _ => K.r)) (fun _ => K.g fun _ => K.wb ev.length (decide (((ev.length : Nat) : Int) ≤ 200)) <| K.r)
def r59 : RS := addS r58 5 fun args => match args with | [.agg [.slT .int _ _, .slT .event ev _, .slT .int _ _, .int .i64 _]] => some (gB (f5 ev 0 ev.length), some (ev.length < big ∧ evOk ev)) | _ => none
theorem r59_ok : RsOk r59 := RsOk.add r58_ok 5 fun _ _ _ e ho h => by
  split at e
  · cases e; exact f5_w _ _ _ _ _ _ _ ho h
  · cases e
end
end Go.Abs
