/- A part of the proof of DirectDifferences: see the last text of this claim. -/
import Derived.Test.YtfdpjfgkdjlomaaGreatDoorB3
import Derived.Test.YtfdpjfgkdjlomaaGreatDoorA4
namespace Go.Abs
noncomputable section
open Go Go.Proofs
theorem room_le {n m b : Nat} (h : roomOk m b = true) (hn : n ≤ m) : roomOk n b = true := by
  unfold roomOk at h ⊢
  rw [Bool.and_eq_true] at h ⊢
  exact ⟨Nat.ble_eq_true_of_le (Nat.le_trans (Nat.mul_le_mul_right b hn) (Nat.le_of_ble_eq_true h.1)), Nat.ble_eq_true_of_le (Nat.le_trans hn (Nat.le_of_ble_eq_true h.2))⟩
/-- a value that is copied -/
def Ok21 (a : Val) : Prop := ∀ h, CallOk CB 21 [.agg [.int .i64 a.kind, .int .i64 a.n, .int .i64 a.e, .str a.s, .slT .str a.names false, .slT .val a.items false]] h none (.val (.agg [.int .i64 a.kind, .int .i64 a.n, .int .i64 a.e, .str a.s, .slT .str a.names false, .slT .val a.items false]) h none)
def s21 : List AV → Option AV := fun args => match args with | [.agg [.int .i64 k, .int .i64 n, .int .i64 e, .str s, .slT .str nn _, .slT .val ni _]] => some (.agg [.int .i64 k, .int .i64 n, .int .i64 e, .str s, .slT .str nn false, .slT .val ni false]) | _ => none
def s36 : List AV → Option AV := fun args => match args with | [.slT .val l _] => some (.slT .val l false) | _ => none
def q36 : RS := addS r59 21 (selfS 21 s21)
theorem q36_ok : RsOk q36 := r59_ok.add 21 selfS_ok
def q21 : RS := addS r59 36 (selfS 36 s36)
theorem q21_ok : RsOk q21 := r59_ok.add 36 selfS_ok
def hd36 (B : St) (i : Nat) (a : AV × Heap) : St := { n := B.n, tm := (B.tm.put 3 a.1).put 4 (.int .i64 ((i : Nat) : Int)), h := a.2, ds := B.ds, pn := B.pn }
/-- the first so many elements' cells -/
def flatTo (t : PT) (l : List (El t)) (i : Nat) : List AV := flatT t (l.take i)
theorem flatTo_succ {t : PT} {l : List (El t)} {i : Nat} (h : i < l.length) : flatTo t l (i + 1) = flatTo t l i ++ avT t (elAt t l i) := by
  have : l.take (i + 1) = l.take i ++ [elAt t l i] := by
    rw [List.take_add_one, elAt_get h]; rfl
  unfold flatTo
  rw [this]
  unfold flatT
  rw [List.flatMap_append]
  simp
theorem flatTo_all {t : PT} {l : List (El t)} : flatTo t l l.length = flatT t l := by unfold flatTo; rw [List.take_length]
theorem OwnR.nx {t : PT} {l : List (El t)} {h : Heap} {v : AV} {e s i n lo bd : Nat} (hi : i < l.length) (O : OwnR h v e s (flatTo t l i ++ avT t (elAt t l i)) n lo bd) : OwnR h v e s (flatTo t l (i + 1)) n lo bd := by rw [flatTo_succ hi]; exact O
theorem OwnR.fz {t : PT} {l : List (El t)} {h : Heap} {v : AV} {e s lo bd : Nat} (O : OwnR h v e s (flatTo t l l.length) l.length lo bd) : freezeA h deep v = some (frzV (flatT t l) l.length) := by rw [flatTo_all] at O; exact freeze_T (k := 62) O
theorem f36_v (l : List Val) (x : Bool) (hP : roomOk l.length 88 = true ∧ l.length < big ∧ ∀ i, i < l.length → Ok21 (vAt l i)) : ∀ h, CallOk CB 36 [.slT .val l x] h none (.val (frzV (flatT .val l) l.length) h none) :=
  pureS q36_ok Tryz.func36 <| K.l l.length hd36 (fun i a => OwnR a.2 a.1 56 6 (flatTo .val l i) i 0 a.2.next) (fun _ _ => frzV (flatT .val l) l.length) (.nils, Heap.empty) hP.2.1 (OwnR.nil _ _ _ (Nat.zero_le _)) fun i a Rn N hi O => by
    rcases Nat.lt_or_ge i l.length with hlt | hge
    · refine K.w1 hlt <| K.im 4 ((True ∧ Ix ((i : Nat) : Int) l) ∧ ∀ h, CallOk CB 21 [.agg [.int .i64 (vAt l i).kind, .int .i64 (vAt l i).n, .int .i64 (vAt l i).e, .str (vAt l i).s, .slT .str (vAt l i).names false, .slT .val (vAt l i).items false]] h none (.val (.agg [.int .i64 (vAt l i).kind, .int .i64 (vAt l i).n, .int .i64 (vAt l i).e, .str (vAt l i).s, .slT .str (vAt l i).names false, .slT .val (vAt l i).items false]) h none)) ⟨⟨trivial, ix hlt⟩, hP.2.2 i hlt⟩ fun t => ?_
      refine Z.gr 54 56 6 88 (H := a.2) (el := 56) (wh := true) (v0 := a.1) (nw := avT .val (elAt .val l i)) O rfl (room_le hP.1 hlt) fun h' O' K' hn => ?_
      refine Z.R <| ?_
      exact Z.n 4 N (.slO (Nat.succ a.2.next) 0 6 (i + 1) (i + 1) false, h') hP.2.1 hlt (OwnR.nx (t := .val) (l := l) hlt O') rfl (h' := h') (trim_h (k := 3) (u := .slO (Nat.succ a.2.next) 0 6 (i + 1) (i + 1) false) (by kernel_rfl) (low_slO (Nat.le_succ _)))
    · obtain rfl : i = l.length := by omega
      exact K.w0 l.length <| K.rg (v1 := a.1) (h1 := a.2) (OwnR.fz (t := .val) (l := l) O)
theorem f36_t (l : List Val) (x : Bool) (hP : roomOk l.length 88 = true ∧ l.length < big ∧ ∀ i, i < l.length → Ok21 (vAt l i)) : ∀ h, CallOk CB 36 [.slT .val l x] h none (.val (.slT .val l false) h none) :=
  fun h => (f36_v l x hP h).weak (fun _ _ _ _ r => frzV_T r)
/-- a list of values that is copied -/
def Ok36 (l : List Val) (x : Bool) : Prop := ∀ h, CallOk CB 36 [.slT .val l x] h none (.val (.slT .val l false) h none)
theorem f21_v (k n e : Int) (s : Str) (nn : List Str) (x : Bool) (ni : List Val) (y : Bool) (hP : roomOk nn.length 16 = true ∧ Ok36 ni y) : ∀ h, CallOk CB 21 [.agg [.int .i64 k, .int .i64 n, .int .i64 e, .str s, .slT .str nn x, .slT .val ni y]] h none (.val (.agg [.int .i64 k, .int .i64 n, .int .i64 e, .str s, .slT .str nn false, .slT .val ni false]) h none) :=
  pureS q21_ok Tryz.func21 <| K.d ((True ∧ roomOk nn.length 16 = true) ∧ ∀ h, CallOk CB 36 [.slT .val ni y] h none (.val (.slT .val ni false) h none)) ⟨⟨trivial, hP.1⟩, hP.2⟩ <| K.r
mutual
/-- all lists have room in memory -/
def Val.room : Val → Prop
  | .mk _ _ _ _ _ names _ items => roomOk names.length 16 = true ∧ roomOk items.length 88 = true ∧ roomL items
def roomL : List Val → Prop
  | [] => True
  | v :: l => v.room ∧ roomL l
end
theorem roomL_at : ∀ {l : List Val} {i : Nat}, roomL l → i < l.length → (l.getD i default).room
  | [], i, _, h => by cases h
  | a :: l, 0, k, _ => by rw [roomL] at k; exact k.1
  | a :: l, i + 1, k, h => by rw [roomL] at k; exact roomL_at (l := l) (i := i) k.2 (by simpa using h)
theorem room_fields {v : Val} (h : v.room) : roomOk v.names.length 16 = true ∧ roomOk v.items.length 88 = true ∧ roomL v.items := by
  cases v; rw [Val.room] at h; exact h
theorem room6 {v : Val} (h : v.room) : (mk6 v.kind v.n v.e v.s v.names v.items).room := by cases v; unfold mk6; rw [Val.room] at h ⊢; exact h
theorem f21_key : ∀ (d : Nat) (v : Val), v.dep < d → v.ok → v.room → ∀ (x y : Bool), ∀ h, CallOk CB 21 [.agg [.int .i64 v.kind, .int .i64 v.n, .int .i64 v.e, .str v.s, .slT .str v.names x, .slT .val v.items y]] h none (.val (.agg [.int .i64 v.kind, .int .i64 v.n, .int .i64 v.e, .str v.s, .slT .str v.names false, .slT .val v.items false]) h none)
  | 0, v, hv, _, _, _, _ => absurd hv (Nat.not_lt_zero _)
  | d + 1, v, hv, ho, hr, x, y => by
    have o := ok_fields ho
    have r := room_fields hr
    refine f21_v _ _ _ _ _ _ _ _ ⟨r.1, f36_t _ _ ⟨r.2.1, o.2.2.1, fun i hi => ?_⟩⟩
    refine f21_key d (vAt v.items i) ?_ (okL_at o.2.2.2.1 hi) (roomL_at r.2.2 hi) false false
    have : (vAt v.items i).dep ≤ depL v.items := depL_at hi
    have e : v.dep = depL v.items + 1 := by cases v; rw [Val.dep]; rfl
    omega
theorem f21_w (k n e : Int) (s : Str) (nn : List Str) (x : Bool) (ni : List Val) (y : Bool) (hP : (mk6 k n e s nn ni).ok ∧ (mk6 k n e s nn ni).room) : ∀ h, CallOk CB 21 [.agg [.int .i64 k, .int .i64 n, .int .i64 e, .str s, .slT .str nn x, .slT .val ni y]] h none (.val (.agg [.int .i64 k, .int .i64 n, .int .i64 e, .str s, .slT .str nn false, .slT .val ni false]) h none) :=
  f21_key _ (mk6 k n e s nn ni) (Nat.lt_succ_self _) hP.1 hP.2 x y
def r60 : RS := addS r59 21 fun args => match args with | [.agg [.int .i64 k, .int .i64 n, .int .i64 e, .str s, .slT .str nn _, .slT .val ni _]] => some (.agg [.int .i64 k, .int .i64 n, .int .i64 e, .str s, .slT .str nn false, .slT .val ni false], some ((mk6 k n e s nn ni).ok ∧ (mk6 k n e s nn ni).room)) | _ => none
theorem r60_ok : RsOk r60 := RsOk.add r59_ok 21 fun _ _ _ e ho h => by
  split at e
  · cases e; exact f21_w _ _ _ _ _ _ _ _ ho h
  · cases e
end
end Go.Abs
namespace Go.Abs
noncomputable section
open Go Go.Proofs
/-- events whose values have room -/
def evRoom (l : List Mev) : Prop := ∀ i, i < l.length → (eAt l i).value.room
def hd7 (B : St) (i : Nat) (a : AV × Heap) : St := { n := B.n, tm := B.tm.put 4 (.int .i64 ((i : Nat) : Int)), h := a.2, ds := B.ds, pn := B.pn }
def row7 (ch vd : List Int) (x y : Bool) (st : Int) (v : AV) : List AV := [.slT .int ch x, v, .slT .int vd y, .int .i64 st]
structure P7 (ch : List Int) (cx : Bool) (ev : List Mev) (ex : Bool) (vd : List Int) (vx : Bool) (st : Int) (i : Nat) (a : AV × Heap) : Prop where
  own : OwnR a.2 a.1 58 11 (flatTo .event ev i) i 3 a.2.next
  g0 : a.2.get 0 = some (bk 0 25 true 0 (row7 ch vd cx vx st (.slT .event ev ex)))
  g1 : a.2.get 1 = some (bk 1 25 true 0 [.nils, .nils, .nils, .int .i64 0])
  g2 : ∃ ver, a.2.get 2 = some (bk 2 25 true ver (row7 ch vd false false st a.1))
def ini7 (ch : List Int) (cx : Bool) (ev : List Mev) (ex : Bool) (vd : List Int) (vx : Bool) (st : Int) : Heap := hpL [bk 0 25 true 0 (row7 ch vd cx vx st (.slT .event ev ex)), bk 1 25 true 0 [.nils, .nils, .nils, .int .i64 0], bk 2 25 true 1 (row7 ch vd false false st .nils)]
def z58 : List AV := [.int .i64 0, .int .i64 0, .str [], .str [], .int .i64 0, .int .i64 0, .int .i64 0, .str [], .nils, .nils, .int .i64 0]
def e58 (ev : List Mev) (i : Nat) : List AV := avT .event (elAt .event ev i)
def x58 (ev : List Mev) (i : Nat) : AV := .agg [.int .i64 (eAt ev i).value.kind, .int .i64 (eAt ev i).value.n, .int .i64 (eAt ev i).value.e, .str (eAt ev i).value.s, .slT .str (eAt ev i).value.names false, .slT .val (eAt ev i).value.items false]
abbrev S58 (ev : List Mev) (i : Nat) : Prop := (mk6 (eAt ev i).value.kind (eAt ev i).value.n (eAt ev i).value.e (eAt ev i).value.s (eAt ev i).value.names (eAt ev i).value.items).ok ∧ (mk6 (eAt ev i).value.kind (eAt ev i).value.n (eAt ev i).value.e (eAt ev i).value.s (eAt ev i).value.names (eAt ev i).value.items).room
theorem OwnR.fk {t : PT} {l : List (El t)} {h : Heap} {v : AV} {e s lo bd : Nat} (k : Nat) (O : OwnR h v e s (flatTo t l l.length) l.length lo bd) : freezeA h (k + 2) v = some (frzV (flatT t l) l.length) := by rw [flatTo_all] at O; exact freeze_T (k := k) O
theorem fz7 {h : Heap} {ch vd : List Int} {x y : Bool} {st : Int} {v v' : AV} (f : freezeA h 63 v = some v') : freezeA h deep (.agg (row7 ch vd x y st v)) = some (.agg (row7 ch vd x y st v')) := by
  show freezeA h (63 + 1) _ = _
  rw [freezeA_succ]
  simp only
  unfold row7
  rw [freezeL_cons, freezeL_cons, f]
  rfl
theorem f7_v (ch : List Int) (cx : Bool) (ev : List Mev) (ex : Bool) (vd : List Int) (vx : Bool) (st : Int) (hP : ev.length < big ∧ evOk ev ∧ evRoom ev ∧ roomOk ev.length 144 = true ∧ roomOk ch.length 8 = true ∧ roomOk vd.length 8 = true) : ∀ h, CallOk CB 7 [.agg [.slT .int ch cx, .slT .event ev ex, .slT .int vd vx, .int .i64 st]] h none (.val (.agg [.slT .int ch false, frzV (flatT .event ev) ev.length, .slT .int vd false, .int .i64 st]) h none) :=
  pureS r60_ok Tryz.func7 <| K.d ((True ∧ roomOk ch.length 8 = true) ∧ roomOk vd.length 8 = true) ⟨⟨trivial, hP.2.2.2.2.1⟩, hP.2.2.2.2.2⟩ <| K.l ev.length hd7 (P7 ch cx ev ex vd vx st) (fun _ _ => AV.agg [.slT .int ch false, frzV (flatT .event ev) ev.length, .slT .int vd false, .int .i64 st]) (.nils, ini7 ch cx ev ex vd vx st) hP.1 ⟨OwnR.nil _ _ _ (Nat.le_refl 3), by kernel_rfl, by kernel_rfl, 1, by kernel_rfl⟩ fun i a Rn N hi Pa => by
    obtain ⟨ver, g2⟩ := Pa.g2
    rcases Nat.lt_or_ge i ev.length with hlt | hge
    · have gn1 : (a.2.new 58 true z58).get a.2.next = some (bk a.2.next 58 true 0 z58) := new_get _ _ _ _
      have gn2 : ((a.2.new 58 true z58).set a.2.next (bk a.2.next 58 true 1 (e58 ev i))).get a.2.next = some (bk a.2.next 58 true 1 (e58 ev i)) := by rw [Heap.get_set, if_pos rfl]
      have h3 : 3 ≤ a.2.next := Nat.le_trans Pa.own.1 Pa.own.2.1
      have gp : ∀ j b, a.2.get j = some b → j < 3 → (((a.2.new 58 true z58).set a.2.next (bk a.2.next 58 true 1 (e58 ev i))).set a.2.next (bk a.2.next 58 true 2 (e58 ev i))).get j = some b := fun j b e hj => by
        rw [Heap.get_set, if_neg (by omega), Heap.get_set, if_neg (by omega)]
        unfold Heap.new
        rw [Heap.get_add, if_neg (by omega)]
        exact e
      have gn3 : (((a.2.new 58 true z58).set a.2.next (bk a.2.next 58 true 1 (e58 ev i))).set a.2.next (bk a.2.next 58 true 2 (e58 ev i))).get a.2.next = some (bk a.2.next 58 true 2 (e58 ev i)) := by rw [Heap.get_set, if_pos rfl]
      have O3 : OwnR (((a.2.new 58 true z58).set a.2.next (bk a.2.next 58 true 1 (e58 ev i))).set a.2.next (bk a.2.next 58 true 2 (e58 ev i))) a.1 58 11 (flatTo .event ev i) i 3 a.2.next := OwnR.set (.inr (Nat.le_refl _)) (OwnR.set (.inr (Nat.le_refl _)) (OwnR.new Pa.own))
      have gq : ∀ j b, a.2.get j = some b → j < 3 → ((((a.2.new 58 true z58).set a.2.next (bk a.2.next 58 true 1 (e58 ev i))).set a.2.next (bk a.2.next 58 true 2 (e58 ev i))).new 58 true (e58 ev i)).get j = some b := fun j b e hj => by
        have := gp j b e hj
        unfold Heap.new at this ⊢
        rw [Heap.get_add, if_neg (by show j ≠ a.2.next + 1; omega)]
        exact this
      refine Z.st 5 <| Z.ld 23 0 1 (h1 := a.2) Pa.g0 (u := .slT .event ev ex) <| K.w1 hlt <| Z.st 6 <| Z.ld 23 0 1 (h1 := a.2) Pa.g0 (u := .slT .event ev ex) <| Z.st 1 <| Z.xi .event ev ((i : Nat) : Int) (ix hlt) <| Z.st 2 <| Z.so 58 a.2.next 0 (u := .agg (e58 ev i)) (b' := bk a.2.next 58 true 1 (e58 ev i)) gn1 <| Z.st 5 <| Z.ld 56 a.2.next 4 gn2 (u := x58 ev i) <| Z.kr 21 [x58 ev i] (x58 ev i) (S58 ev i) ⟨ev_ok6 hP.2.1 hlt, room6 (hP.2.2.1 i hlt)⟩ <| Z.st 1 <| Z.so 56 a.2.next 4 (u := x58 ev i) (b' := bk a.2.next 58 true 2 (e58 ev i)) gn2 <| Z.st 4 <| Z.ld 23 2 1 (gp 2 _ g2 (Nat.lt_succ_self _)) (u := a.1) <| Z.ld 58 a.2.next 0 gn3 (u := .agg (e58 ev i)) <| Z.st 1 <| Z.gr 23 58 11 144 (H := (((a.2.new 58 true z58).set a.2.next (bk a.2.next 58 true 1 (e58 ev i))).set a.2.next (bk a.2.next 58 true 2 (e58 ev i)))) (el := 58) (wh := true) (v0 := a.1) (nw := e58 ev i) O3 rfl (room_le hP.2.2.2.1 hlt) fun h' O' K' hn => ?_
      have k2 := K'.2 2 _ (gq 2 _ g2 (Nat.lt_succ_self _)) (show 2 < a.2.next + 2 by omega) (show 2 < 3 by omega)
      refine Z.st 1 <| Z.so 23 2 1 (u := .slO (Nat.succ (Nat.succ a.2.next)) 0 11 (i + 1) (i + 1) false) (b' := bk 2 25 true (Nat.succ ver) (row7 ch vd false false st (.slO (Nat.succ (Nat.succ a.2.next)) 0 11 (i + 1) (i + 1) false))) k2 <| Z.R <| ?_
      have k2' : (h'.set 2 (bk 2 25 true (Nat.succ ver) (row7 ch vd false false st (.slO (Nat.succ (Nat.succ a.2.next)) 0 11 (i + 1) (i + 1) false)))).get 2 = some (bk 2 25 true (Nat.succ ver) (row7 ch vd false false st (.slO (Nat.succ (Nat.succ a.2.next)) 0 11 (i + 1) (i + 1) false))) := by rw [Heap.get_set, if_pos rfl]
      refine Z.n 4 N (.slO (Nat.succ (Nat.succ a.2.next)) 0 11 (i + 1) (i + 1) false, h'.set 2 (bk 2 25 true (Nat.succ ver) (row7 ch vd false false st (.slO (Nat.succ (Nat.succ a.2.next)) 0 11 (i + 1) (i + 1) false)))) hP.1 hlt ⟨?_, ?_, ?_, Nat.succ ver, k2'⟩ rfl (h' := h'.set 2 (bk 2 25 true (Nat.succ ver) (row7 ch vd false false st (.slO (Nat.succ (Nat.succ a.2.next)) 0 11 (i + 1) (i + 1) false)))) (trim_hb (k := 2) (j := 1) (by kernel_rfl) (show 2 < a.2.next by omega) k2' rfl (low_slO (show a.2.next ≤ a.2.next + 2 by omega)))
      · exact OwnR.set (.inl (Nat.lt_succ_self _)) (OwnR.nx (t := .event) (l := ev) hlt O')
      · have := K'.2 0 _ (gq 0 _ Pa.g0 (by omega)) (show 0 < a.2.next + 2 by omega) (show 0 < 3 by omega)
        rw [Heap.get_set, if_neg (by omega)]
        exact this
      · have := K'.2 1 _ (gq 1 _ Pa.g1 (by omega)) (show 1 < a.2.next + 2 by omega) (show 1 < 3 by omega)
        rw [Heap.get_set, if_neg (by omega)]
        exact this
    · obtain rfl : i = ev.length := by omega
      have fz : freezeA (a.2.set 1 (bk 1 25 true 1 (row7 ch vd false false st a.1))) deep (.agg (row7 ch vd false false st a.1)) = some (.agg [.slT .int ch false, frzV (flatT .event ev) ev.length, .slT .int vd false, .int .i64 st]) := by
        have O := OwnR.set (j := 1) (b' := bk 1 25 true 1 (row7 ch vd false false st a.1)) (.inl (by decide)) Pa.own
        exact fz7 (OwnR.fk (t := .event) (l := ev) 61 O)
      exact Z.st 5 <| Z.ld 23 0 1 (h1 := a.2) Pa.g0 (u := .slT .event ev ex) <| K.w0 ev.length <| Z.st 4 <| Z.ld 25 2 0 (h1 := a.2) g2 (u := .agg (row7 ch vd false false st a.1)) <| Z.so 25 1 0 (h1 := a.2) (u := .agg (row7 ch vd false false st a.1)) (b' := bk 1 25 true 1 (row7 ch vd false false st a.1)) Pa.g1 <| K.rc 2 25 1 0 (h1 := a.2.set 1 (bk 1 25 true 1 (row7 ch vd false false st a.1))) (v1 := .agg (row7 ch vd false false st a.1)) (b := bk 1 25 true 1 (row7 ch vd false false st a.1)) (by rw [Heap.get_set, if_pos rfl]) fz
theorem rel_7 {w : World} {F : Nat → Prop} {a b c d b' : AV} {μ : Map} {u : Value} (hb : ∀ v, Rel w F b μ v → Rel w F b' μ v) (h : Rel w F (.agg [a, b, c, d]) μ u) : Rel w F (.agg [a, b', c, d]) μ u := by
  unfold Rel at h ⊢
  obtain ⟨vs, h1, h2, h3⟩ := h
  refine ⟨vs, h1, ?_, h3⟩
  generalize vs.toList = l at h2
  unfold RelL at h2 ⊢
  obtain ⟨v1, us1, rfl, r1, h2⟩ := h2
  refine ⟨v1, us1, rfl, r1, ?_⟩
  unfold RelL at h2 ⊢
  obtain ⟨v2, us2, rfl, r2, h2⟩ := h2
  exact ⟨v2, us2, rfl, hb _ r2, h2⟩
/-- what a run must bear to be copied -/
structure RunOk (ch : List Int) (ev : List Mev) (vd : List Int) : Prop where
  big : ev.length < big
  ok : evOk ev
  room : evRoom ev
  e : roomOk ev.length 144 = true
  c : roomOk ch.length 8 = true
  v : roomOk vd.length 8 = true
theorem f7_w (ch : List Int) (cx : Bool) (ev : List Mev) (ex : Bool) (vd : List Int) (vx : Bool) (st : Int) (hP : RunOk ch ev vd) : ∀ h, CallOk CB 7 [.agg [.slT .int ch cx, .slT .event ev ex, .slT .int vd vx, .int .i64 st]] h none (.val (.agg [.slT .int ch false, .slT .event ev false, .slT .int vd false, .int .i64 st]) h none) :=
  fun h => (f7_v ch cx ev ex vd vx st ⟨hP.big, hP.ok, hP.room, hP.e, hP.c, hP.v⟩ h).weak (fun _ _ _ _ r => rel_7 (fun _ r => frzV_T r) r)
def r61 : RS := addS r60 7 fun args => match args with | [.agg [.slT .int ch _, .slT .event ev _, .slT .int vd _, .int .i64 st]] => some (.agg [.slT .int ch false, .slT .event ev false, .slT .int vd false, .int .i64 st], some (RunOk ch ev vd)) | _ => none
theorem r61_ok : RsOk r61 := RsOk.add r60_ok 7 fun _ _ _ e ho h => by
  split at e
  · cases e; exact f7_w _ _ _ _ _ _ _ ho h
  · cases e
end
end Go.Abs
namespace Go.Abs
noncomputable section
open Go Go.Proofs
def bad8 (l : List Mev) (i : Nat) : Bool := bif ((eAt l i).value).kind != 0 then !(a56 ((eAt l i).value).kind ((eAt l i).value).n ((eAt l i).value).e ((eAt l i).value).s ((eAt l i).value).names ((eAt l i).value).items == 0) else !(a23 ((eAt l i).value).n ((eAt l i).value).e ((eAt l i).value).s ((eAt l i).value).names ((eAt l i).value).items)
def f8 (l : List Mev) : Nat → Nat → Int
  | _, 0 => 0
  | i, m + 1 => bif bad8 l i then 2 else f8 l (i + 1) m
def a8 (l k : List Mev) : Int := bif (bif decide (((l.length : Nat) : Int) > 2000) then true else decide (((k.length : Nat) : Int) > 2000)) then 2 else f8 (l ++ k) 0 (l.length + k.length)
def h8 (ch vd : List Int) (ev : List Mev) (cx vx ex : Bool) (st : Int) (ch2 vd2 : List Int) (ev2 : List Mev) (cx2 vx2 ex2 : Bool) (st2 : Int) : Heap := hpL [bk 0 25 true 0 (row7 ch vd cx vx st (.slT .event ev ex)), bk 1 25 true 0 (row7 ch2 vd2 cx2 vx2 st2 (.slT .event ev2 ex2)), bk 2 58 true 0 []]
theorem room_add {n m b : Nat} (h : roomOk (n + m) b = true) : roomOk n b = true := by
  unfold roomOk at h ⊢
  rw [Bool.and_eq_true] at h ⊢
  exact ⟨Nat.ble_eq_true_of_le (Nat.le_trans (Nat.mul_le_mul_right _ (Nat.le_add_right _ _)) (Nat.le_of_ble_eq_true h.1)), Nat.ble_eq_true_of_le (Nat.le_trans (Nat.le_add_right _ _) (Nat.le_of_ble_eq_true h.2))⟩
def hd8 (H : Heap) (B : St) (i : Nat) (_ : Unit) : St := { n := B.n, tm := B.tm.put 6 (.int .i64 ((i : Nat) : Int)), h := H, ds := B.ds, pn := B.pn }
theorem big_add {n b : Nat} (h : roomOk n b = true) : n < big := by
  unfold roomOk at h
  rw [Bool.and_eq_true] at h
  exact Nat.lt_of_le_of_lt (Nat.le_of_ble_eq_true h.2) (by unfold big; omega)
theorem ok_app {l k : List Mev} (hl : evOk l) (hk : evOk k) : evOk (l ++ k) := fun i hi => by
  rw [List.length_append] at hi
  unfold eAt
  rw [List.getD_eq_getElem?_getD]
  rcases Nat.lt_or_ge i l.length with h | h
  · rw [List.getElem?_append_left h, ← List.getD_eq_getElem?_getD]; exact hl i h
  · rw [List.getElem?_append_right h, ← List.getD_eq_getElem?_getD]; exact hk _ (by omega)
theorem eq_of_ne {a : Int} (h : (a != 0) = true) : (a == 0) = false := by
  rw [bne] at h; cases hb : (a == 0) with
  | false => rfl
  | true => rw [hb] at h; cases h
theorem eq_of_nen {a : Int} (h : (a != 0) = false) : (a == 0) = true := by
  rw [bne] at h; cases hb : (a == 0) with
  | false => rw [hb] at h; cases h
  | true => rfl
theorem room_few {n m : Nat} (h : (bif decide (((n : Nat) : Int) > 2000) then true else decide (((m : Nat) : Int) > 2000)) = false) : roomOk (n + m) 144 = true := by
  cases hn : decide (((n : Nat) : Int) > 2000) with
  | true => rw [hn] at h; cases h
  | false =>
    rw [hn, cond_false] at h
    have h1 := of_decide_eq_false hn
    have h2 := of_decide_eq_false h
    unfold roomOk
    rw [Bool.and_eq_true]
    exact ⟨Nat.ble_eq_true_of_le (by show (n + m) * 144 ≤ _; omega), Nat.ble_eq_true_of_le (by omega)⟩
theorem f8_v (ch : List Int) (cx : Bool) (ev : List Mev) (ex : Bool) (vd : List Int) (vx : Bool) (st : Int) (ch2 : List Int) (cx2 : Bool) (ev2 : List Mev) (ex2 : Bool) (vd2 : List Int) (vx2 : Bool) (st2 : Int) (hQ : evOk ev ∧ evOk ev2) : ∀ h, CallOk CB 8 [.agg [.slT .int ch cx, .slT .event ev ex, .slT .int vd vx, .int .i64 st], .agg [.slT .int ch2 cx2, .slT .event ev2 ex2, .slT .int vd2 vx2, .int .i64 st2]] h none (.val (gI (a8 ev ev2)) h none) :=
  pureS r61_ok Tryz.func8 <| K.g fun _ => K.z gI (fun _ => K.r) fun hq => by
    have hP : roomOk (ev.length + ev2.length) 144 = true ∧ evOk ev ∧ evOk ev2 := ⟨room_few hq, hQ⟩
    obtain ⟨id1, x1, h1, b1, hA, U1, hf1, k1⟩ := append_T (h := h8 ch vd ev cx vx ex st ch2 vd2 ev2 cx2 vx2 ex2 st2) (lo := 2) (id := 2) (e := 58) (bytes := 144) (t := .event) (l := []) (k := ev) (ex := true) (x := ex) (b := bk 2 58 true 0 []) ⟨by kernel_rfl, rfl, rfl, rfl, rfl, Nat.le_refl 2, Nat.le_refl 2, Nat.lt_succ_self 2⟩ rfl (by rw [List.length_nil, Nat.zero_add]; exact room_add hP.1)
    simp only [List.length_nil, Nat.zero_add] at hA U1
    obtain ⟨id2, x2, h2, b2, hB, U2, hf2, k2⟩ := append_T (e := 58) (bytes := 144) (t := .event) (l := ev) (k := ev2) (ex := x1) (x := ex2) U1 (hf1 rfl) hP.1
    have g11 := k1 1 _ (show (h8 ch vd ev cx vx ex st ch2 vd2 ev2 cx2 vx2 ex2 st2).get 1 = some (bk 1 25 true 0 (row7 ch2 vd2 cx2 vx2 st2 (.slT .event ev2 ex2))) by kernel_rfl) (show 1 < 2 by omega) (show 1 < 2 by omega)
    refine Z.st 2 <| Z.dr <| WE.av 3 <| WE.opm hA <| WE.av 1 <| WE.ldB 23 1 1 g11 (u := .slT .event ev2 ex2) <| WE.opm hB <| WE.fink 2 (h8 ch vd ev cx vx ex st ch2 vd2 ev2 cx2 vx2 ex2 st2) (ms := [(6, h1, h2), (3, h8 ch vd ev cx vx ex st ch2 vd2 ev2 cx2 vx2 ex2 st2, h1)]) ?_ ?_
    · have gA : ∀ id, id < 2 → ∃ c, (h8 ch vd ev cx vx ex st ch2 vd2 ev2 cx2 vx2 ex2 st2).get id = some c ∧ c.grp < 2 := fun id hid => by
        rcases (show id = 0 ∨ id = 1 by omega) with rfl | rfl
        · exact ⟨bk 0 25 true 0 (row7 ch vd cx vx st (.slT .event ev ex)), by kernel_rfl, show 0 < 2 by omega⟩
        · exact ⟨bk 1 25 true 0 (row7 ch2 vd2 cx2 vx2 st2 (.slT .event ev2 ex2)), by kernel_rfl, show 1 < 2 by omega⟩
      intro m hm id hid
      obtain ⟨c, q1, q2⟩ := gA id hid
      have q3 := k1 id c q1 hid q2
      have q4 := k2 id c q3 hid q2
      simp only [List.mem_cons, List.not_mem_nil, or_false] at hm
      rcases hm with rfl | rfl
      · exact ⟨q3.trans q1.symm, q4.trans q1.symm⟩
      · exact ⟨rfl, q3.trans q1.symm⟩
    · refine K.lh (ev.length + ev2.length) (hd8 h2) (fun _ _ => True) (fun i (_ : Unit) => gI (f8 (ev ++ ev2) i (ev.length + ev2.length - i))) () (big_add hP.1) trivial fun i _ Rn N hi _ => ?_
      rcases Nat.lt_or_ge i (ev.length + ev2.length) with hlt | hge
      · have hl2 : i < (ev ++ ev2).length := by rw [List.length_append]; exact hlt
        rw [show ev.length + ev2.length - i = (ev.length + ev2.length - (i + 1)) + 1 by omega]
        refine K.e (cur' := gI (bif ((eAt (ev ++ ev2) i).value).kind != 0 then (bif !(a56 ((eAt (ev ++ ev2) i).value).kind ((eAt (ev ++ ev2) i).value).n ((eAt (ev ++ ev2) i).value).e ((eAt (ev ++ ev2) i).value).s ((eAt (ev ++ ev2) i).value).names ((eAt (ev ++ ev2) i).value).items == 0) then 2 else f8 (ev ++ ev2) (i + 1) (ev.length + ev2.length - (i + 1))) else (bif !(a23 ((eAt (ev ++ ev2) i).value).n ((eAt (ev ++ ev2) i).value).e ((eAt (ev ++ ev2) i).value).s ((eAt (ev ++ ev2) i).value).names ((eAt (ev ++ ev2) i).value).items) then 2 else f8 (ev ++ ev2) (i + 1) (ev.length + ev2.length - (i + 1))))) (by
          show gI (f8 (ev ++ ev2) i ((ev.length + ev2.length - (i + 1)) + 1)) = _
          rw [f8]
          unfold bad8
          cases ((eAt (ev ++ ev2) i).value).kind != 0 <;> rfl) ?_
        refine K.w1 hlt <| Z.st 7 <| Z.ia 23 58 id2 0 11 (ev.length + ev2.length) (ev.length + ev2.length) x2 hlt <| Z.st 2 <| Z.lr 3 id2 (Nat.add (Nat.add (Nat.add 0 (Nat.mul i 11)) 4) 0) (k := 4) U2 hl2 (by show 0 + i * 11 + 4 + 0 = i * 11 + 4; omega) (val := .int .i64 (eAt (ev ++ ev2) i).value.kind) <| Z.st 2 <| Z.sp gI 37 (fun hk => ?_) (fun hk => ?_)
        · refine Z.st 2 <| Z.ia 23 58 id2 0 11 (ev.length + ev2.length) (ev.length + ev2.length) x2 hlt <| Z.st 1 <| Z.lr 56 id2 (Nat.add (Nat.add 0 (Nat.mul i 11)) 4) (k := 4) U2 hl2 (by show 0 + i * 11 + 4 = i * 11 + 4; omega) (val := x58 (ev ++ ev2) i) <| Z.kr 22 [x58 (ev ++ ev2) i] (gB (a56 ((eAt (ev ++ ev2) i).value).kind ((eAt (ev ++ ev2) i).value).n ((eAt (ev ++ ev2) i).value).e ((eAt (ev ++ ev2) i).value).s ((eAt (ev ++ ev2) i).value).names ((eAt (ev ++ ev2) i).value).items == 0)) _ (ev_ok6 (ok_app hP.2.1 hP.2.2) hl2) <| Z.st 3 <| Z.sp gI 46 (fun hq => ?_) (fun hq => ?_)
          · exact Z.st 25 <| K.r
          · exact Z.st 2 <| Z.ia 23 58 id2 0 11 (ev.length + ev2.length) (ev.length + ev2.length) x2 hlt <| Z.st 2 <| Z.lr 3 id2 (Nat.add (Nat.add (Nat.add 0 (Nat.mul i 11)) 4) 0) (k := 4) U2 hl2 (by show 0 + i * 11 + 4 + 0 = i * 11 + 4; omega) (val := .int .i64 (eAt (ev ++ ev2) i).value.kind) <| Z.st 2 <| Z.p 54 (u := .bool ((eAt (ev ++ ev2) i).value.kind == 0)) (u' := .bool false) (by rw [eq_of_ne hk]) <| Z.st 12 <| Z.R <| Z.n 6 N () (big_add hP.1) hlt trivial rfl (h' := h2) (trim_same (by kernel_rfl))
        · exact Z.st 11 <| Z.ia 23 58 id2 0 11 (ev.length + ev2.length) (ev.length + ev2.length) x2 hlt <| Z.st 2 <| Z.lr 3 id2 (Nat.add (Nat.add (Nat.add 0 (Nat.mul i 11)) 4) 0) (k := 4) U2 hl2 (by show 0 + i * 11 + 4 + 0 = i * 11 + 4; omega) (val := .int .i64 (eAt (ev ++ ev2) i).value.kind) <| Z.st 2 <| Z.p 54 (u := .bool ((eAt (ev ++ ev2) i).value.kind == 0)) (u' := .bool true) (by rw [eq_of_nen hk]) <| Z.st 2 <| Z.ia 23 58 id2 0 11 (ev.length + ev2.length) (ev.length + ev2.length) x2 hlt <| Z.st 1 <| Z.lr 56 id2 (Nat.add (Nat.add 0 (Nat.mul i 11)) 4) (k := 4) U2 hl2 (by show 0 + i * 11 + 4 = i * 11 + 4; omega) (val := x58 (ev ++ ev2) i) <| Z.kn 23 [x58 (ev ++ ev2) i] (gB (a23 ((eAt (ev ++ ev2) i).value).n ((eAt (ev ++ ev2) i).value).e ((eAt (ev ++ ev2) i).value).s ((eAt (ev ++ ev2) i).value).names ((eAt (ev ++ ev2) i).value).items)) <| Z.st 3 <| Z.sp gI 63 (fun _ => Z.st 8 <| K.r) (fun _ => Z.st 4 <| Z.R <| Z.n 6 N () (big_add hP.1) hlt trivial rfl (h' := h2) (trim_same (by kernel_rfl)))
      · obtain rfl : i = ev.length + ev2.length := by omega
        refine K.e (cur' := gI 0) ?_ <| K.w0 (ev.length + ev2.length) <| K.r
        show gI (f8 (ev ++ ev2) (ev.length + ev2.length) (ev.length + ev2.length - (ev.length + ev2.length))) = _
        rw [Nat.sub_self]
        cases ev.length + ev2.length <;> rfl
def r62 : RS := addS r61 8 fun args => match args with | [.agg [.slT .int _ _, .slT .event ev _, .slT .int _ _, .int .i64 _], .agg [.slT .int _ _, .slT .event ev2 _, .slT .int _ _, .int .i64 _]] => some (gI (a8 ev ev2), some (evOk ev ∧ evOk ev2)) | _ => none
theorem r62_ok : RsOk r62 := RsOk.add r61_ok 8 fun _ _ _ e ho h => by
  split at e
  · cases e; exact f8_v _ _ _ _ _ _ _ _ _ _ _ _ _ _ ho h
  · cases e
end
end Go.Abs
namespace Go.Abs
noncomputable section
open Go Go.Proofs
def r63 : RS := addS r62 4 fun args => match args with | [] => some (gB true, none) | _ => none
def a9 (l k : List Mev) : Int := f9 l k 0 l.length
def a3 (ev ev2 : List Mev) : Bool := bif (bif !(f5 ev 0 ev.length) then true else !(f5 ev2 0 ev2.length)) then true else bif a8 ev ev2 != 0 then (bif (a6 ev ev2).2 == a8 ev ev2 then (a6 ev ev2).1 == 0 else false) else bif a9 ev ev2 == -1 then (bif (a6 ev ev2).2 == 23 then (a6 ev ev2).1 == 0 else false) else (bif (a6 ev ev2).2 == 0 then (a6 ev ev2).1 == a9 ev ev2 else false)
theorem f3_v (hA : RsOk r63) (ch : List Int) (cx : Bool) (ev : List Mev) (ex : Bool) (vd : List Int) (vx : Bool) (st : Int) (ch2 : List Int) (cx2 : Bool) (ev2 : List Mev) (ex2 : Bool) (vd2 : List Int) (vx2 : Bool) (st2 : Int) (hP : RunOk ch ev vd) (hQ : RunOk ch2 ev2 vd2) : ∀ h, CallOk CB 3 [.agg [.slT .int ch cx, .slT .event ev ex, .slT .int vd vx, .int .i64 st], .agg [.slT .int ch2 cx2, .slT .event ev2 ex2, .slT .int vd2 vx2, .int .i64 st2]] h none (.val (gB (a3 ev ev2)) h none) :=
  pureS hA Tryz.func3 <| K.f <| K.i ((True ∧ (ev.length < big ∧ evOk ev)) ∧ ((!(f5 ev 0 ev.length)) = false → (ev2.length < big ∧ evOk ev2))) ⟨⟨trivial, hP.big, hP.ok⟩, fun _ => ⟨hQ.big, hQ.ok⟩⟩ fun _ => K.z gB (fun _ => K.r) fun _ => K.d (((True ∧ RunOk ch ev vd) ∧ RunOk ch2 ev2 vd2) ∧ ((ev.length < big ∧ evOk ev) ∧ ev2.length < big ∧ evOk ev2)) ⟨⟨⟨trivial, hP⟩, hQ⟩, ⟨hP.big, hP.ok⟩, hQ.big, hQ.ok⟩ <| K.i (True ∧ (evOk ev ∧ evOk ev2)) ⟨trivial, hP.ok, hQ.ok⟩ fun _ => K.z gB (fun _ => K.g fun _ => K.r) fun _ => K.i (True ∧ (ev.length < big ∧ evOk ev)) ⟨trivial, hP.big, hP.ok⟩ fun _ => K.z gB (fun _ => K.g fun _ => K.r) fun _ => K.g fun _ => K.r
theorem f3_w (hA : RsOk r63) (ch : List Int) (cx : Bool) (ev : List Mev) (ex : Bool) (vd : List Int) (vx : Bool) (st : Int) (ch2 : List Int) (cx2 : Bool) (ev2 : List Mev) (ex2 : Bool) (vd2 : List Int) (vx2 : Bool) (st2 : Int) (hP : RunOk ch ev vd) (hQ : RunOk ch2 ev2 vd2) (ht : a3 ev ev2 = true) : ∀ h, CallOk CB 3 [.agg [.slT .int ch cx, .slT .event ev ex, .slT .int vd vx, .int .i64 st], .agg [.slT .int ch2 cx2, .slT .event ev2 ex2, .slT .int vd2 vx2, .int .i64 st2]] h none (.val (gB true) h none) := fun h => by
  rw [← ht]; exact f3_v hA ch cx ev ex vd vx st ch2 cx2 ev2 ex2 vd2 vx2 st2 hP hQ h
end
end Go.Abs
