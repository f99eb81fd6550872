/- A part of the proofs of the laws of logs: see the last text of this claim. -/
import Derived.Test.YtlehhkleemaloaaGreatDoorB4
namespace Go.Abs
noncomputable section
open Go Go.Proofs
variable {K : Nat}
theorem wstr_c {n : Nat} (hn : 3 ≤ n) {p : Nat} {h0 h : Heap} {s t : List UInt8} (w : Wr h0 h p s) (hl : s.length + t.length ≤ 1000000000000) : ∃ h', (fns (Cg K) n).call 63 [.ptrO p 0, .str t] h none = some (.val (.tup [.int .i64 ((lenN t : Nat) : Int), .nili]) h' none) ∧ Wr h h' p (s ++ t) := writeString_c hn w.self hl
theorem Wr.at {s : St} {h0 h : Heap} {p : Nat} {x y : List UInt8} (he : s.h = h) (W : Wr h0 h p x) (e : x = y) : Wr h0 s.h p y := by subst he; subst e; exact W
section
variable {h : Heap} {p : Nat} {s : List UInt8}
set_option maxRecDepth 20000 in
theorem number_c {n : Nat}  (hn : 4 ≤ n) (w : Wr h h p s) {x : Int} {b : List UInt8} (hl : s.length + b.length + 21 ≤ 1000000000000) (hx : inR64 x = true)  : ∃ h', (fns (Cg K) n).call 61 [.ptrO p 0, .int .i64 x, .str b] h none = some (.val (.tup []) h' none) ∧ (fun h' => Wr h h' p (s ++ (Lib.itoa x ++ b))) h' := by
  obtain ⟨m, rfl⟩ : ∃ m, n = m + 1 := ⟨n - 1, by omega⟩
  refine plainx (C := Cg K) (F := fns (Cg K) m) (fn := Tryz.f61) (c := bodyOf Tryz.f61) (by kernel_rfl) (by kernel_rfl) (by kernel_rfl) (by kernel_rfl) (by kernel_rfl) (by kernel_rfl) ?_
  refine W.drawn2 (by kernel_rfl) ?_
  refine WE.adv (j' := 4) 4 (by kernel_rfl) (by kernel_rfl) ?_
  refine WE.callp (by kernel_rfl) (by kernel_rfl) (itoa_c (n := m) (by omega) (x := x) (hx) _) ?_
  refine WE.adv (j' := 6) 1 (by kernel_rfl) (by kernel_rfl) ?_
  refine WE.opq (str_add (K := K) (x := (Lib.itoa x)) (y := b) false 9 (by have := itoa_le (hx); first | omega | (simp only [List.length_append, List.length_cons, List.length_nil]; omega))) (by kernel_rfl) (by kernel_rfl) ?_
  obtain ⟨h1, hc1, w1⟩ := wstr_c (n := m) (by omega) (t := ((Lib.itoa x) ++ b)) (h := h) (p := p) (s := s) w (by have := itoa_le (hx); first | omega | (simp only [List.length_append, List.length_cons, List.length_nil]; omega))
  have W1 := Wr.back w w1; have hn1 := Wr.le w1
  refine WE.callh (by kernel_rfl) (by kernel_rfl) (by kernel_rfl) hc1 ?_
  refine WE.fin (by kernel_rfl) ?_
  exact RetX.kn (h' := h1) (Wr.cast W1 (by rfl)) (v' := .tup []) (by rfl) (by kernel_rfl) (by kernel_rfl) (by kernel_rfl)

end
theorem numb_c {n : Nat} (hn : 4 ≤ n) {p : Nat} {h0 h : Heap} {s b : List UInt8} {x : Int} (w : Wr h0 h p s) (hl : s.length + b.length + 21 ≤ 1000000000000) (hx : inR64 x = true) : ∃ h', (fns (Cg K) n).call 61 [.ptrO p 0, .int .i64 x, .str b] h none = some (.val (.tup []) h' none) ∧ Wr h h' p (s ++ (Lib.itoa x ++ b)) := number_c hn w.self hl hx
section
variable {h : Heap} {p : Nat} {s : List UInt8}
set_option maxRecDepth 20000 in
theorem wtext_c {n : Nat}  (hn : 5 ≤ n) (w : Wr h h p s) {t : List UInt8} (hl : s.length + t.length + 30 ≤ 1000000000000)  : ∃ h', (fns (Cg K) n).call 62 [.ptrO p 0, .str t] h none = some (.val (.tup []) h' none) ∧ (fun h' => Wr h h' p (s ++ txt t)) h' := by
  obtain ⟨m, rfl⟩ : ∃ m, n = m + 1 := ⟨n - 1, by omega⟩
  refine plainx (C := Cg K) (F := fns (Cg K) m) (fn := Tryz.f62) (c := bodyOf Tryz.f62) (by kernel_rfl) (by kernel_rfl) (by kernel_rfl) (by kernel_rfl) (by kernel_rfl) (by kernel_rfl) ?_
  refine W.seq ?_
  refine W.region ?_
  refine WO.adv 3 (by kernel_rfl) ?_
  obtain ⟨h1, hc1, w1⟩ := numb_c (n := m) (by omega) (x := ((lenN t : Nat) : Int)) (b := [58]) (h := h) (p := p) (s := s) w (by have := itoa_le (inR64_nat (n := lenN t) (by rw [lenN_eq]; omega)); first | omega | (simp only [List.length_append, List.length_cons, List.length_nil]; omega)) (inR64_nat (n := lenN t) (by rw [lenN_eq]; omega))
  have W1 := Wr.back w w1; have hn1 := Wr.le w1
  refine WO.callh (by kernel_rfl) (by kernel_rfl) hc1 ?_
  refine WO.nil ?_
  refine W.region ?_
  refine WO.adv 4 (by kernel_rfl) ?_
  obtain ⟨h2, hc2, w2⟩ := wstr_c (n := m) (by omega) (t := t) (h := h1) (p := p) (s := (s ++ (Lib.itoa ((lenN t : Nat) : Int) ++ [58]))) W1 (by have := itoa_le (inR64_nat (n := lenN t) (by rw [lenN_eq]; omega)); first | omega | (simp only [List.length_append, List.length_cons, List.length_nil]; omega))
  have W2 := Wr.back W1 w2; have hn2 := Wr.le w2
  refine WO.callh (by kernel_rfl) (by kernel_rfl) hc2 ?_
  refine WO.nil ?_
  exact RetX.kn (h' := h2) (Wr.cast W2 (by simp only [txt, List.append_assoc])) (v' := .tup []) (by rfl) (by kernel_rfl) (by kernel_rfl) (by kernel_rfl)

end
theorem text_c {n : Nat} (hn : 5 ≤ n) {p : Nat} {h0 h : Heap} {s t : List UInt8} (w : Wr h0 h p s) (hl : s.length + t.length + 30 ≤ 1000000000000) : ∃ h', (fns (Cg K) n).call 62 [.ptrO p 0, .str t] h none = some (.val (.tup []) h' none) ∧ Wr h h' p (s ++ txt t) := wtext_c hn w.self hl
section
variable {h : Heap} {p : Nat} {s : List UInt8}
theorem name_len2 {v : Val} (hs : v.sm) (i : Nat) : (v.names.getD i []).length ≤ 200 := by
  rw [List.getD_eq_getElem?_getD]
  rcases Nat.lt_or_ge i v.names.length with h | h
  · rw [List.getElem?_eq_getElem h, Option.getD_some]
    exact (sm_head hs).2.2.2.2.2 _ (List.getElem_mem h)
  · rw [List.getElem?_eq_none h]; simp
set_option maxRecDepth 20000 in
theorem wvalue_c1 {n : Nat}  (hn : 6 ≤ n) (w : Wr h h p s) (v : Val) (hv : v.ok) (hs : v.sm) (hl : s.length + 10000 * v.cnt ≤ 1000000000000) (hK : big ≤ K) (hrec0 : ∀ m, m + 1 = n → ∀ i, i < v.items.length → ∀ {h0 h : Heap} {p : Nat} {s : List UInt8}, Wr h0 h p s → s.length + 10000 * (v.items.getD i default).cnt ≤ 1000000000000 → ∃ h', (fns (Cg K) m).call 64 [.ptrO p 0, .agg (v.items.getD i default).six] h none = some (.val (.tup []) h' none) ∧ Wr h h' p (s ++ valText (v.items.getD i default))) : ∃ h', (fns (Cg K) n).call 64 [.ptrO p 0, .agg v.six] h none = some (.val (.tup []) h' none) ∧ (fun h' => Wr h h' p (s ++ valText v)) h' := by
  obtain ⟨m, rfl⟩ : ∃ m, n = m + 1 := ⟨n - 1, by omega⟩
  have hlt := ok_items hv
  have hlen : v.items.length ≤ 9223372036854775807 := by unfold big at hlt; omega
  have hlK : v.items.length < (Cg K).loops := by rw [loops_eq]; omega
  have hlt1 := ok_names hv
  have hlen1 : v.names.length ≤ 9223372036854775807 := by unfold big at hlt1; omega
  have hlK1 : v.names.length < (Cg K).loops := by rw [loops_eq]; omega
  have hp := w.lt
  refine plainx (C := Cg K) (F := fns (Cg K) m) (fn := Tryz.f64) (c := bodyOf Tryz.f64) (by kernel_rfl) (by kernel_rfl) (by kernel_rfl) (by kernel_rfl) (by kernel_rfl) (by kernel_rfl) ?_
  refine W.seq ?_
  refine W.region ?_
  refine WO.opk (y := some (.ptrO h.next 0, (h.new 35 true v.six))) rfl (by kernel_rfl) ?_
  refine WO.nil ?_
  refine W.seq ?_
  refine W.region ?_
  refine WO.adv 3 (by kernel_rfl) ?_
  obtain ⟨h1, hc1, w1⟩ := wstr_c (n := m) (by omega) (t := [118]) (h := (h.new 35 true v.six)) (p := p) (s := s) (Wr.new (el := 35) (wh := true) (cs := v.six) w) (by have := cnt_eq v; have := cnt_pos v; first | omega | (simp only [List.length_append, List.length_cons, List.length_nil]; omega))
  have W1 := Wr.back (Wr.new (el := 35) (wh := true) (cs := v.six) w) w1; have hn1 := Wr.le w1; simp only [nnew] at hn1
  refine WO.callh (by kernel_rfl) (by kernel_rfl) hc1 ?_
  refine WO.nil ?_
  refine W.seq ?_
  refine W.region ?_
  refine WO.adv 2 (by kernel_rfl) ?_
  refine WO.opk (y := keep h1 (opLoad (Cg K) h1 3 (.ptrO h.next 0))) (x := .int .i64 v.kind) (h' := h1) (load_k (Wr.kept (b := bk h.next 35 true 0 v.six) w1 gnew (show 35 ≠ 5 by decide) (by omega)) (by kernel_rfl)) (by kernel_rfl) ?_
  obtain ⟨h2, hc2, w2⟩ := numb_c (n := m) (by omega) (x := v.kind) (b := [44]) (h := h1) (p := p) (s := (s ++ [118])) W1 (by have := cnt_eq v; have := cnt_pos v; have := itoa_le (inR64_num (sm_head hs).1); first | omega | (simp only [List.length_append, List.length_cons, List.length_nil]; omega)) (inR64_num (sm_head hs).1)
  have W2 := Wr.back W1 w2; have hn2 := Wr.le w2
  refine WO.callh (by kernel_rfl) (by kernel_rfl) hc2 ?_
  refine WO.nil ?_
  refine W.seq ?_
  refine W.region ?_
  refine WO.adv 2 (by kernel_rfl) ?_
  refine WO.opk (y := keep h2 (opLoad (Cg K) h2 3 (.ptrO h.next 1))) (x := .int .i64 v.n) (h' := h2) (load_k (Wr.kept (b := bk h.next 35 true 0 v.six) w2 (Wr.kept (b := bk h.next 35 true 0 v.six) w1 gnew (show 35 ≠ 5 by decide) (by omega)) (show 35 ≠ 5 by decide) (by omega)) (by kernel_rfl)) (by kernel_rfl) ?_
  obtain ⟨h3, hc3, w3⟩ := numb_c (n := m) (by omega) (x := v.n) (b := [44]) (h := h2) (p := p) (s := ((s ++ [118]) ++ (Lib.itoa v.kind ++ [44]))) W2 (by have := itoa_le (inR64_num (sm_head hs).1); have := cnt_eq v; have := cnt_pos v; have := itoa_le (inR64_num (sm_head hs).2.1); first | omega | (simp only [List.length_append, List.length_cons, List.length_nil]; omega)) (inR64_num (sm_head hs).2.1)
  have W3 := Wr.back W2 w3; have hn3 := Wr.le w3
  refine WO.callh (by kernel_rfl) (by kernel_rfl) hc3 ?_
  refine WO.nil ?_
  refine W.seq ?_
  refine W.region ?_
  refine WO.adv 2 (by kernel_rfl) ?_
  refine WO.opk (y := keep h3 (opLoad (Cg K) h3 3 (.ptrO h.next 2))) (x := .int .i64 v.e) (h' := h3) (load_k (Wr.kept (b := bk h.next 35 true 0 v.six) w3 (Wr.kept (b := bk h.next 35 true 0 v.six) w2 (Wr.kept (b := bk h.next 35 true 0 v.six) w1 gnew (show 35 ≠ 5 by decide) (by omega)) (show 35 ≠ 5 by decide) (by omega)) (show 35 ≠ 5 by decide) (by omega)) (by kernel_rfl)) (by kernel_rfl) ?_
  obtain ⟨h4, hc4, w4⟩ := numb_c (n := m) (by omega) (x := v.e) (b := [44]) (h := h3) (p := p) (s := (((s ++ [118]) ++ (Lib.itoa v.kind ++ [44])) ++ (Lib.itoa v.n ++ [44]))) W3 (by have := itoa_le (inR64_num (sm_head hs).1); have := itoa_le (inR64_num (sm_head hs).2.1); have := cnt_eq v; have := cnt_pos v; have := itoa_le (inR64_num (sm_head hs).2.2.1); first | omega | (simp only [List.length_append, List.length_cons, List.length_nil]; omega)) (inR64_num (sm_head hs).2.2.1)
  have W4 := Wr.back W3 w4; have hn4 := Wr.le w4
  refine WO.callh (by kernel_rfl) (by kernel_rfl) hc4 ?_
  refine WO.nil ?_
  refine W.seq ?_
  refine W.region ?_
  refine WO.adv 2 (by kernel_rfl) ?_
  refine WO.opk (y := keep h4 (opLoad (Cg K) h4 9 (.ptrO h.next 3))) (x := .str v.s) (h' := h4) (load_k (Wr.kept (b := bk h.next 35 true 0 v.six) w4 (Wr.kept (b := bk h.next 35 true 0 v.six) w3 (Wr.kept (b := bk h.next 35 true 0 v.six) w2 (Wr.kept (b := bk h.next 35 true 0 v.six) w1 gnew (show 35 ≠ 5 by decide) (by omega)) (show 35 ≠ 5 by decide) (by omega)) (show 35 ≠ 5 by decide) (by omega)) (show 35 ≠ 5 by decide) (by omega)) (by kernel_rfl)) (by kernel_rfl) ?_
  obtain ⟨h5, hc5, w5⟩ := text_c (n := m) (by omega) (t := v.s) (h := h4) (p := p) (s := ((((s ++ [118]) ++ (Lib.itoa v.kind ++ [44])) ++ (Lib.itoa v.n ++ [44])) ++ (Lib.itoa v.e ++ [44]))) W4 (by have := itoa_le (inR64_num (sm_head hs).1); have := itoa_le (inR64_num (sm_head hs).2.1); have := itoa_le (inR64_num (sm_head hs).2.2.1); have := cnt_eq v; have := cnt_pos v; have := txt_len (s := v.s) (by have := (sm_head hs).2.2.2.1; omega); have := (sm_head hs).2.2.2.1; first | omega | (simp only [List.length_append, List.length_cons, List.length_nil]; omega))
  have W5 := Wr.back W4 w5; have hn5 := Wr.le w5
  refine WO.callh (by kernel_rfl) (by kernel_rfl) hc5 ?_
  refine WO.nil ?_
  refine W.seq ?_
  refine W.region ?_
  refine WO.adv 3 (by kernel_rfl) ?_
  obtain ⟨h6, hc6, w6⟩ := wstr_c (n := m) (by omega) (t := [44]) (h := h5) (p := p) (s := (((((s ++ [118]) ++ (Lib.itoa v.kind ++ [44])) ++ (Lib.itoa v.n ++ [44])) ++ (Lib.itoa v.e ++ [44])) ++ (txt v.s))) W5 (by have := itoa_le (inR64_num (sm_head hs).1); have := itoa_le (inR64_num (sm_head hs).2.1); have := itoa_le (inR64_num (sm_head hs).2.2.1); have := txt_len (s := v.s) (by have := (sm_head hs).2.2.2.1; omega); have := (sm_head hs).2.2.2.1; have := cnt_eq v; have := cnt_pos v; first | omega | (simp only [List.length_append, List.length_cons, List.length_nil]; omega))
  have W6 := Wr.back W5 w6; have hn6 := Wr.le w6
  refine WO.callh (by kernel_rfl) (by kernel_rfl) hc6 ?_
  refine WO.nil ?_
  refine W.seq ?_
  refine W.region ?_
  refine WO.adv 2 (by kernel_rfl) ?_
  refine WO.opk (y := keep h6 (opLoad (Cg K) h6 29 (.ptrO h.next 4))) (x := v.namesA) (h' := h6) (load_k (Wr.kept (b := bk h.next 35 true 0 v.six) w6 (Wr.kept (b := bk h.next 35 true 0 v.six) w5 (Wr.kept (b := bk h.next 35 true 0 v.six) w4 (Wr.kept (b := bk h.next 35 true 0 v.six) w3 (Wr.kept (b := bk h.next 35 true 0 v.six) w2 (Wr.kept (b := bk h.next 35 true 0 v.six) w1 gnew (show 35 ≠ 5 by decide) (by omega)) (show 35 ≠ 5 by decide) (by omega)) (show 35 ≠ 5 by decide) (by omega)) (show 35 ≠ 5 by decide) (by omega)) (show 35 ≠ 5 by decide) (by omega)) (show 35 ≠ 5 by decide) (by omega)) (by kernel_rfl)) (by kernel_rfl) ?_
  refine WO.opc (fun h => names_len (K := K) (h := h) (v := v)) (by kernel_rfl) ?_
  obtain ⟨h7, hc7, w7⟩ := numb_c (n := m) (by omega) (x := ((v.names.length : Nat) : Int)) (b := []) (h := h6) (p := p) (s := ((((((s ++ [118]) ++ (Lib.itoa v.kind ++ [44])) ++ (Lib.itoa v.n ++ [44])) ++ (Lib.itoa v.e ++ [44])) ++ (txt v.s)) ++ [44])) W6 (by have := itoa_le (inR64_num (sm_head hs).1); have := itoa_le (inR64_num (sm_head hs).2.1); have := itoa_le (inR64_num (sm_head hs).2.2.1); have := txt_len (s := v.s) (by have := (sm_head hs).2.2.2.1; omega); have := (sm_head hs).2.2.2.1; have := cnt_eq v; have := cnt_pos v; have := itoa_le (inR64_nat (n := v.names.length) (by have := (sm_head hs).2.2.2.2.1; omega)); first | omega | (simp only [List.length_append, List.length_cons, List.length_nil]; omega)) (inR64_nat (n := v.names.length) (by have := (sm_head hs).2.2.2.2.1; omega))
  have W7 := Wr.back W6 w7; have hn7 := Wr.le w7
  refine WO.callh (by kernel_rfl) (by kernel_rfl) hc7 ?_
  refine WO.nil ?_
  refine W.seq ?_
  refine W.seq ?_
  refine W.region ?_
  refine WO.adv 1 (by kernel_rfl) ?_
  refine WO.opk (y := keep h7 (opLoad (Cg K) h7 29 (.ptrO h.next 4))) (x := v.namesA) (h' := h7) (load_k (Wr.kept (b := bk h.next 35 true 0 v.six) w7 (Wr.kept (b := bk h.next 35 true 0 v.six) w6 (Wr.kept (b := bk h.next 35 true 0 v.six) w5 (Wr.kept (b := bk h.next 35 true 0 v.six) w4 (Wr.kept (b := bk h.next 35 true 0 v.six) w3 (Wr.kept (b := bk h.next 35 true 0 v.six) w2 (Wr.kept (b := bk h.next 35 true 0 v.six) w1 gnew (show 35 ≠ 5 by decide) (by omega)) (show 35 ≠ 5 by decide) (by omega)) (show 35 ≠ 5 by decide) (by omega)) (show 35 ≠ 5 by decide) (by omega)) (show 35 ≠ 5 by decide) (by omega)) (show 35 ≠ 5 by decide) (by omega)) (show 35 ≠ 5 by decide) (by omega)) (by kernel_rfl)) (by kernel_rfl) ?_
  refine WO.opc (fun h => names_len (K := K) (h := h) (v := v)) (by kernel_rfl) ?_
  refine WO.fin (by kernel_rfl) ?_
  refine W.block ?_
  refine W.loopc (len := v.names.length) (fun i t => (S 76 ((some (.ptrO p 0)) :: (some (.agg v.six)) :: none :: (some (.ptrO h.next 0)) :: none :: (t.g 5) :: none :: none :: (some (.ptrO p 0)) :: (some (.ptrO p 0)) :: (some (.ptrO p 0)) :: (some (.tup [.int .i64 1, .nili])) :: (some (.ptrO p 0)) :: (some (.ptrO h.next 0)) :: (some (.int .i64 v.kind)) :: (some (.tup [])) :: (some (.ptrO p 0)) :: (some (.ptrO h.next 1)) :: (some (.int .i64 v.n)) :: (some (.tup [])) :: (some (.ptrO p 0)) :: (some (.ptrO h.next 2)) :: (some (.int .i64 v.e)) :: (some (.tup [])) :: (some (.ptrO p 0)) :: (some (.ptrO h.next 3)) :: (some (.str v.s)) :: (some (.tup [])) :: (some (.ptrO p 0)) :: (some (.ptrO p 0)) :: (some (.ptrO p 0)) :: (some (.tup [.int .i64 1, .nili])) :: (some (.ptrO p 0)) :: (some (.ptrO h.next 4)) :: (some (v.namesA)) :: (some (.int .i64 ((v.names.length : Nat) : Int))) :: (some (.tup [])) :: (some (.ptrO h.next 4)) :: (some (v.namesA)) :: (some (.int .i64 ((v.names.length : Nat) : Int))) :: (some (.int .i64 ((i : Nat) : Int))) :: (t.g 41) :: (t.g 42) :: (t.g 43) :: (t.g 44) :: (t.g 45) :: (t.g 46) :: (t.g 47) :: (t.g 48) :: (t.g 49) :: (t.g 50) :: (t.g 51) :: none :: none :: none :: none :: none :: none :: none :: none :: none :: none :: none :: none :: none :: none :: none :: none :: none :: none :: none :: none :: none :: none :: none :: none :: []) t.h)) (fun i t => (Wr h t.h p (s ++ (headT v ++ namesText (v.names.take i)))) ∧ (t.h.get h.next = some (bk h.next 35 true (t.vr h.next) v.six)) ∧ (h.next + 1 ≤ t.h.next)) hlK1 ?_ ?_ ?_
  · exact Told.k (by kernel_rfl)
  · refine ⟨?_, hv_fact (h := h7) (ver := 0) (cs := v.six) (by kernel_rfl) (Wr.kept (b := bk h.next 35 true 0 v.six) w7 (Wr.kept (b := bk h.next 35 true 0 v.six) w6 (Wr.kept (b := bk h.next 35 true 0 v.six) w5 (Wr.kept (b := bk h.next 35 true 0 v.six) w4 (Wr.kept (b := bk h.next 35 true 0 v.six) w3 (Wr.kept (b := bk h.next 35 true 0 v.six) w2 (Wr.kept (b := bk h.next 35 true 0 v.six) w1 gnew (show 35 ≠ 5 by decide) (by omega)) (show 35 ≠ 5 by decide) (by omega)) (show 35 ≠ 5 by decide) (by omega)) (show 35 ≠ 5 by decide) (by omega)) (show 35 ≠ 5 by decide) (by omega)) (show 35 ≠ 5 by decide) (by omega)) (show 35 ≠ 5 by decide) (by omega)) (by rfl), hv_next (h := h7) (by kernel_rfl) (by first | omega | (simp only [nnew, nset]; omega))⟩
    exact Wr.at (h := h7) (by kernel_rfl) W7 (by simp only [headT, namesText, List.take_zero, List.append_assoc, List.append_nil])
  · rintro i8 t8 hi8 ⟨hI8, hgh_next_i8, hnx_i8⟩
    refine W.seq ?_
    refine W.region ?_
    refine WO.fin (by kernel_rfl) ?_
    refine W.seq ?_
    refine W.cond (decide (((i8 : Nat) : Int) < ((v.names.length : Nat) : Int))) (by kernel_rfl) (fun hb9 => ?_) (fun hb9 => ?_)
    · refine W.sub 41 hb9 (by kernel_rfl) ?_
      refine W.skip ?_
      refine W.seq ?_
      refine W.block ?_
      refine W.seq ?_
      refine W.region ?_
      refine WO.opc (fun h => names_at (K := K) (h := h) (v := v) (lt_of_dec hb9)) (by kernel_rfl) ?_
      refine WO.opc (fun h => name_get (K := K) (h := h) (v := v) (lt_of_dec hb9)) (by kernel_rfl) ?_
      refine WO.fin (by kernel_rfl) ?_
      refine W.seq ?_
      refine W.region ?_
      refine WO.adv 3 (by kernel_rfl) ?_
      obtain ⟨h10, hc10, w10⟩ := wstr_c (n := m) (by omega) (t := [44]) (h := t8.h) (p := p) (s := (s ++ (headT v ++ namesText (v.names.take i8)))) hI8 (by have := headT_len hs; have := names_take_len hs i8; have := cnt_eq v; have := cnt_pos v; first | omega | (simp only [List.length_append, List.length_cons, List.length_nil]; omega))
      have W10 := Wr.back hI8 w10; have hn10 := Wr.le w10
      refine WO.callh (by kernel_rfl) (by kernel_rfl) hc10 ?_
      refine WO.nil ?_
      refine W.region ?_
      refine WO.adv 2 (by kernel_rfl) ?_
      obtain ⟨h11, hc11, w11⟩ := text_c (n := m) (by omega) (t := (v.names.getD i8 [])) (h := h10) (p := p) (s := ((s ++ (headT v ++ namesText (v.names.take i8))) ++ [44])) W10 (by have := headT_len hs; have := names_take_len hs i8; have := cnt_eq v; have := cnt_pos v; have := name_txt hs i8; have := name_len2 hs i8; first | omega | (simp only [List.length_append, List.length_cons, List.length_nil]; omega))
      have W11 := Wr.back W10 w11; have hn11 := Wr.le w11
      refine WO.callh (by kernel_rfl) (by kernel_rfl) hc11 ?_
      refine WO.nil ?_
      refine W.region ?_
      refine WO.fin (by kernel_rfl) ?_
      have hlt : i8 < v.names.length := ((lt_of_dec hb9))
      refine ⟨hlt, ⟨?_, hv_fact (h := h11) (ver := (t8.vr h.next)) (cs := v.six) (by kernel_rfl) (Wr.kept (b := bk h.next 35 true (t8.vr h.next) v.six) w11 (Wr.kept (b := bk h.next 35 true (t8.vr h.next) v.six) w10 hgh_next_i8 (show 35 ≠ 5 by decide) (by omega)) (show 35 ≠ 5 by decide) (by omega)) (by rfl), hv_next (h := h11) (by kernel_rfl) (by first | omega | (simp only [nnew, nset]; omega))⟩, ?_⟩
      · exact Wr.at (h := h11) (by kernel_rfl) W11 (by rw [namesText_succ _ _ hlt]; simp only [List.append_assoc])
      · refine Told.put 40 (wrapA hlt hlen1) (by kernel_rfl) ?_
        exact Told.k (by kernel_rfl)
    · refine W.sub 41 hb9 (by kernel_rfl) ?_
      refine W.exit ?_
      refine blockQ ?_
      refine W.seq ?_
      refine W.region ?_
      refine WO.adv 3 (by kernel_rfl) ?_
      obtain ⟨h12, hc12, w12⟩ := wstr_c (n := m) (by omega) (t := [44]) (h := t8.h) (p := p) (s := (s ++ (headT v ++ namesText (v.names.take i8)))) hI8 (by have := headT_len hs; have := names_take_len hs i8; have := cnt_eq v; have := cnt_pos v; first | omega | (simp only [List.length_append, List.length_cons, List.length_nil]; omega))
      have W12 := Wr.back hI8 w12; have hn12 := Wr.le w12
      refine WO.callh (by kernel_rfl) (by kernel_rfl) hc12 ?_
      refine WO.nil ?_
      refine W.seq ?_
      refine W.region ?_
      refine WO.adv 2 (by kernel_rfl) ?_
      refine WO.opk (y := keep h12 (opLoad (Cg K) h12 33 (.ptrO h.next 5))) (x := v.itemsA) (h' := h12) (load_k (Wr.kept (b := bk h.next 35 true (t8.vr h.next) v.six) w12 hgh_next_i8 (show 35 ≠ 5 by decide) (by omega)) (by kernel_rfl)) (by kernel_rfl) ?_
      refine WO.opc (fun h => items_len (K := K) (h := h) (v := v)) (by kernel_rfl) ?_
      obtain ⟨h13, hc13, w13⟩ := numb_c (n := m) (by omega) (x := ((v.items.length : Nat) : Int)) (b := []) (h := h12) (p := p) (s := ((s ++ (headT v ++ namesText (v.names.take i8))) ++ [44])) W12 (by have := headT_len hs; have := names_take_len hs i8; have := cnt_eq v; have := cnt_pos v; have := itoa_le (inR64_nat (n := v.items.length) (by have := ok_items hv; unfold big at this; omega)); first | omega | (simp only [List.length_append, List.length_cons, List.length_nil]; omega)) (inR64_nat (n := v.items.length) (by have := ok_items hv; unfold big at this; omega))
      have W13 := Wr.back W12 w13; have hn13 := Wr.le w13
      refine WO.callh (by kernel_rfl) (by kernel_rfl) hc13 ?_
      refine WO.nil ?_
      refine W.seq ?_
      refine W.seq ?_
      refine W.region ?_
      refine WO.adv 1 (by kernel_rfl) ?_
      refine WO.opk (y := keep h13 (opLoad (Cg K) h13 33 (.ptrO h.next 5))) (x := v.itemsA) (h' := h13) (load_k (Wr.kept (b := bk h.next 35 true (t8.vr h.next) v.six) w13 (Wr.kept (b := bk h.next 35 true (t8.vr h.next) v.six) w12 hgh_next_i8 (show 35 ≠ 5 by decide) (by omega)) (show 35 ≠ 5 by decide) (by omega)) (by kernel_rfl)) (by kernel_rfl) ?_
      refine WO.opc (fun h => items_len (K := K) (h := h) (v := v)) (by kernel_rfl) ?_
      refine WO.fin (by kernel_rfl) ?_
      refine W.block ?_
      refine W.loopc (len := v.items.length) (fun i t => (S 76 ((some (.ptrO p 0)) :: (some (.agg v.six)) :: none :: (some (.ptrO h.next 0)) :: none :: (t.g 5) :: none :: (t.g 7) :: (some (.ptrO p 0)) :: (some (.ptrO p 0)) :: (some (.ptrO p 0)) :: (some (.tup [.int .i64 1, .nili])) :: (some (.ptrO p 0)) :: (some (.ptrO h.next 0)) :: (some (.int .i64 v.kind)) :: (some (.tup [])) :: (some (.ptrO p 0)) :: (some (.ptrO h.next 1)) :: (some (.int .i64 v.n)) :: (some (.tup [])) :: (some (.ptrO p 0)) :: (some (.ptrO h.next 2)) :: (some (.int .i64 v.e)) :: (some (.tup [])) :: (some (.ptrO p 0)) :: (some (.ptrO h.next 3)) :: (some (.str v.s)) :: (some (.tup [])) :: (some (.ptrO p 0)) :: (some (.ptrO p 0)) :: (some (.ptrO p 0)) :: (some (.tup [.int .i64 1, .nili])) :: (some (.ptrO p 0)) :: (some (.ptrO h.next 4)) :: (some (v.namesA)) :: (some (.int .i64 ((v.names.length : Nat) : Int))) :: (some (.tup [])) :: (some (.ptrO h.next 4)) :: (some (v.namesA)) :: (some (.int .i64 ((v.names.length : Nat) : Int))) :: (some (.int .i64 ((i8 : Nat) : Int))) :: (some (.bool false)) :: (t.g 42) :: (t.g 43) :: (t.g 44) :: (t.g 45) :: (t.g 46) :: (t.g 47) :: (t.g 48) :: (t.g 49) :: (t.g 50) :: (t.g 51) :: (some (.ptrO p 0)) :: (some (.ptrO p 0)) :: (some (.ptrO p 0)) :: (some (.tup [.int .i64 1, .nili])) :: (some (.ptrO p 0)) :: (some (.ptrO h.next 5)) :: (some (v.itemsA)) :: (some (.int .i64 ((v.items.length : Nat) : Int))) :: (some (.tup [])) :: (some (.ptrO h.next 5)) :: (some (v.itemsA)) :: (some (.int .i64 ((v.items.length : Nat) : Int))) :: (some (.int .i64 ((i : Nat) : Int))) :: (t.g 65) :: (t.g 66) :: (t.g 67) :: (t.g 68) :: (t.g 69) :: (t.g 70) :: (t.g 71) :: none :: none :: none :: none :: []) t.h)) (fun i t => (Wr h t.h p (s ++ (midT v ++ itemsText (v.items.take i)))) ∧ (t.h.get h.next = some (bk h.next 35 true (t.vr h.next) v.six)) ∧ (h.next + 1 ≤ t.h.next)) hlK ?_ ?_ ?_
      · exact Told.k (by kernel_rfl)
      · refine ⟨?_, hv_fact (h := h13) (ver := (t8.vr h.next)) (cs := v.six) (by kernel_rfl) (Wr.kept (b := bk h.next 35 true (t8.vr h.next) v.six) w13 (Wr.kept (b := bk h.next 35 true (t8.vr h.next) v.six) w12 hgh_next_i8 (show 35 ≠ 5 by decide) (by omega)) (show 35 ≠ 5 by decide) (by omega)) (by rfl), hv_next (h := h13) (by kernel_rfl) (by first | omega | (simp only [nnew, nset]; omega))⟩
        exact Wr.at (h := h13) (by kernel_rfl) W13 (by rw [end_eq hi8 hb9, List.take_length]; simp only [midT, itemsText, List.take_zero, List.append_assoc, List.append_nil])
      · rintro i14 t14 hi14 ⟨hI14, hgh_next_i14, hnx_i14⟩
        refine W.seq ?_
        refine W.region ?_
        refine WO.fin (by kernel_rfl) ?_
        refine W.seq ?_
        refine W.cond (decide (((i14 : Nat) : Int) < ((v.items.length : Nat) : Int))) (by kernel_rfl) (fun hb15 => ?_) (fun hb15 => ?_)
        · refine W.sub 65 hb15 (by kernel_rfl) ?_
          refine W.skip ?_
          refine W.seq ?_
          refine W.block ?_
          refine W.seq ?_
          refine W.region ?_
          refine WO.opc (fun h => items_at (K := K) (h := h) (v := v) (lt_of_dec hb15)) (by kernel_rfl) ?_
          refine WO.opc (fun h => item_six (K := K) (h := h) (v := v) (lt_of_dec hb15)) (by kernel_rfl) ?_
          refine WO.opk (y := some (.ptrO t14.h.next 0, (t14.h.new 35 true [.int .i64 0, .int .i64 0, .int .i64 0, .str [], .nils, .nils]))) rfl (by kernel_rfl) ?_
          refine WO.opk (y := opStore (Cg K) (t14.h.new 35 true [.int .i64 0, .int .i64 0, .int .i64 0, .str [], .nils, .nils]) 35 (.ptrO t14.h.next 0) (.agg ((v.items.getD i14 default).six))) (x := .tup []) (h' := ((t14.h.new 35 true [.int .i64 0, .int .i64 0, .int .i64 0, .str [], .nils, .nils]).set t14.h.next (bk t14.h.next 35 true 1 ((v.items.getD i14 default).six)))) (store_k gnew (by kernel_rfl) (by kernel_rfl)) (by kernel_rfl) ?_
          refine WO.nil ?_
          refine W.region ?_
          refine WO.adv 1 (by kernel_rfl) ?_
          refine WO.opk (y := keep ((t14.h.new 35 true [.int .i64 0, .int .i64 0, .int .i64 0, .str [], .nils, .nils]).set t14.h.next (bk t14.h.next 35 true 1 ((v.items.getD i14 default).six))) (opLoad (Cg K) ((t14.h.new 35 true [.int .i64 0, .int .i64 0, .int .i64 0, .str [], .nils, .nils]).set t14.h.next (bk t14.h.next 35 true 1 ((v.items.getD i14 default).six))) 35 (.ptrO t14.h.next 0))) (x := .agg ((v.items.getD i14 default).six)) (h' := ((t14.h.new 35 true [.int .i64 0, .int .i64 0, .int .i64 0, .str [], .nils, .nils]).set t14.h.next (bk t14.h.next 35 true 1 ((v.items.getD i14 default).six)))) (load_k gss (by kernel_rfl)) (by kernel_rfl) ?_
          obtain ⟨h16, hc16, w16⟩ := hrec0 m rfl i14 (lt_of_dec hb15) (h := ((t14.h.new 35 true [.int .i64 0, .int .i64 0, .int .i64 0, .str [], .nils, .nils]).set t14.h.next (bk t14.h.next 35 true 1 ((v.items.getD i14 default).six)))) (p := p) (s := (s ++ (midT v ++ itemsText (v.items.take i14)))) (Wr.set (q := t14.h.next) (ver' := 1) (cs' := ((v.items.getD i14 default).six)) (Wr.new (el := 35) (wh := true) (cs := [.int .i64 0, .int .i64 0, .int .i64 0, .str [], .nils, .nils]) hI14) gnew (by first | omega | (simp only [nnew]; omega)) hp (show 35 ≠ 5 by decide)) (by have := midT_len hs hv; have := itemsText_take_len hs hv i14; have := cntL_take v.items i14; have := cnt_eq v; have := cnt_pos v; have := cntL_at v.items i14 (lt_of_dec hb15); first | omega | (simp only [List.length_append, List.length_cons, List.length_nil]; omega))
          have W16 := Wr.back (Wr.set (q := t14.h.next) (ver' := 1) (cs' := ((v.items.getD i14 default).six)) (Wr.new (el := 35) (wh := true) (cs := [.int .i64 0, .int .i64 0, .int .i64 0, .str [], .nils, .nils]) hI14) gnew (by first | omega | (simp only [nnew]; omega)) hp (show 35 ≠ 5 by decide)) w16; have hn16 := Wr.le w16; simp only [nnew, nset] at hn16
          refine WO.callh (by kernel_rfl) (by kernel_rfl) hc16 ?_
          refine WO.nil ?_
          refine W.region ?_
          refine WO.fin (by kernel_rfl) ?_
          have hlt : i14 < v.items.length := ((lt_of_dec hb15))
          refine ⟨hlt, ⟨?_, hv_fact (h := h16) (ver := (t14.vr h.next)) (cs := v.six) (by kernel_rfl) (Wr.kept (b := bk h.next 35 true (t14.vr h.next) v.six) w16 (gso (by omega) (gnewo (by omega) hgh_next_i14)) (show 35 ≠ 5 by decide) (by omega)) (by rfl), hv_next (h := h16) (by kernel_rfl) (by first | omega | (simp only [nnew, nset]; omega))⟩, ?_⟩
          · exact Wr.at (h := h16) (by kernel_rfl) W16 (by rw [itemsText_succ _ _ hlt]; simp only [List.append_assoc])
          · refine Told.put 64 (wrapA hlt hlen) (by kernel_rfl) ?_
            exact Told.k (by kernel_rfl)
        · refine W.sub 65 hb15 (by kernel_rfl) ?_
          refine W.exit ?_
          refine blockQ ?_
          refine W.region ?_
          refine WO.adv 3 (by kernel_rfl) ?_
          obtain ⟨h17, hc17, w17⟩ := wstr_c (n := m) (by omega) (t := [59]) (h := t14.h) (p := p) (s := (s ++ (midT v ++ itemsText (v.items.take i14)))) hI14 (by have := midT_len hs hv; have := itemsText_take_len hs hv i14; have := cntL_take v.items i14; have := cnt_eq v; have := cnt_pos v; first | omega | (simp only [List.length_append, List.length_cons, List.length_nil]; omega))
          have W17 := Wr.back hI14 w17; have hn17 := Wr.le w17
          refine WO.callh (by kernel_rfl) (by kernel_rfl) hc17 ?_
          refine WO.nil ?_
          exact RetX.kn (h' := h17) (Wr.cast W17 (by rw [valText_eq, end_eq hi14 hb15, List.take_length]; simp only [List.append_assoc])) (v' := .tup []) (by rfl) (by kernel_rfl) (by kernel_rfl) (by kernel_rfl)

end
theorem wvalue_c (hK : big ≤ K) : ∀ (d : Nat) (v : Val), v.dep ≤ d → v.ok → v.sm → ∀ n, d + 6 ≤ n → ∀ {h0 h : Heap} {p : Nat} {s : List UInt8}, Wr h0 h p s → s.length + 10000 * v.cnt ≤ 1000000000000 → ∃ h', (fns (Cg K) n).call 64 [.ptrO p 0, .agg v.six] h none = some (.val (.tup []) h' none) ∧ Wr h h' p (s ++ valText v) := by
  intro d
  induction d with
  | zero => intro v hd; cases v; rw [Val.dep] at hd; omega
  | succ d ih =>
    intro v hd hv hs n hn h0 h p s w hl
    refine wvalue_c1 (by omega) w.self v hv hs hl hK (fun m hm i hi h0 h p s w hl => ?_)
    exact ih _ (by have := dep_item v hi; omega) (ok_item hv hi) (sm_item hs hi) m (by omega) w hl
end
end Go.Abs
namespace Go.Abs
noncomputable section
open Go Go.Proofs
variable {K : Nat}
theorem bytesOf_cells : ∀ s : List UInt8, bytesOf (bytesCells s) = some s
  | [] => rfl
  | a :: s => by
    have e : bytesOf (bytesCells (a :: s)) = (match bytesOf (bytesCells s) with | some s => some (UInt8.ofNat ((a.toNat : Int)).toNat :: s) | none => none) := rfl
    rw [e, bytesOf_cells s]
    simp
theorem string_b {h : Heap} {id : Nat} {b : Blk} {s : List UInt8} (hne : s ≠ []) (hl : s.length ≤ 1000000000000) (hb : h.get id = some b) (hc : b.cells = bytesCells s) (hk : b.kind = .row) (he : b.el = 5) :
    builtinA (Cg K) h .unsafeString #[175, 3] [.ptrO id 0, .int .i64 ((s.length : Nat) : Int)] = some (.str s, frzOne h id b) := by
  have e : builtinA (Cg K) h .unsafeString #[175, 3] [.ptrO id 0, .int .i64 ((s.length : Nat) : Int)] = biString (Cg K) h 175 (.ptrO id 0) s.length := by kernel_rfl
  rw [e]
  unfold biString
  have h0 : Nat.beq s.length 0 = false := by
    cases hh : Nat.beq s.length 0 with
    | false => rfl
    | true => exact absurd (List.eq_nil_of_length_eq_zero (Nat.eq_of_beq_eq_true hh)) hne
  have hcell : cellsAt h id 0 s.length = some (bytesCells s) := by
    unfold cellsAt
    rw [hb]
    simp only [hk]
    show (bif true then partN b.cells 0 s.length else none) = _
    rw [cond_true, cells_whole (by rw [hc, bytesCells_len]), hc]
  have hu : (Cg K).P.underlying 175 = some (.pointer 5) := by kernel_rfl
  have h1 : (Cg K).P.cellsOf 5 = 1 := by kernel_rfl
  simp only [h0, cond_false, show Nat.ble s.length 4611686018427387904 = true from Nat.ble_eq_true_of_le (by omega), Bool.not_true, hcell, hb, hu, bytesOf_cells, he, h1]
  rfl
theorem string_q {h : Heap} {id q : Nat} {b : Blk} {s : List UInt8} (hq : s.length = q + 1) (hne : s ≠ []) (hl : s.length ≤ 1000000000000) (hb : h.get id = some b) (hc : b.cells = bytesCells s) (hk : b.kind = .row) (he : b.el = 5) :
    builtinA (Cg K) h .unsafeString #[175, 3] [.ptrO id 0, .int .i64 (((q + 1 : Nat) : Nat) : Int)] = some (.str s, frzOne h id b) := by
  have := string_b (K := K) hne hl hb hc hk he
  rwa [hq] at this
set_option maxRecDepth 20000 in
theorem string_c1 {n : Nat}  (hn : 1 ≤ n) {h : Heap} {p g ver id q : Nat} {a : AV} {b : Blk} {s : List UInt8} (hne : s ≠ []) (hl : s.length ≤ 1000000000000) (hb : h.get id = some b) (hc : b.cells = bytesCells s) (hk : b.kind = .row) (he : b.el = 5) (hg : h.get p = some (bk g 130 true ver [a, .slO id 0 1 (q + 1) (q + 1) false])) (hq : s.length = q + 1)  : ∃ h', (fns (Cg K) n).call 65 [.ptrO p 0] h none = some (.val (.str s) h' none) ∧ (fun _ => True) h' := by
  obtain ⟨m, rfl⟩ : ∃ m, n = m + 1 := ⟨n - 1, by omega⟩
  refine plainx (C := Cg K) (F := fns (Cg K) m) (fn := Tryz.f65) (c := bodyOf Tryz.f65) (by kernel_rfl) (by kernel_rfl) (by kernel_rfl) (by kernel_rfl) (by kernel_rfl) (by kernel_rfl) ?_
  refine W.seq ?_
  refine W.region ?_
  refine WO.fin (by kernel_rfl) ?_
  refine W.seq ?_
  refine W.drawn2 (by kernel_rfl) ?_
  refine WE.adv (j' := 3) 3 (by kernel_rfl) (by kernel_rfl) ?_
  refine WE.opr (y := keep h (opLoad (Cg K) h 126 (.ptrO p 1))) (x := .slO id 0 1 (q + 1) (q + 1) false) (id := p) (by kernel_rfl) (load_k hg (by kernel_rfl)) (by kernel_rfl) (by kernel_rfl) (by kernel_rfl) ?_
  refine WE.adv (j' := 8) 4 (by kernel_rfl) (by kernel_rfl) ?_
  refine WE.opr (y := keep h (opLoad (Cg K) h 126 (.ptrO p 1))) (x := .slO id 0 1 (q + 1) (q + 1) false) (id := p) (by kernel_rfl) (load_k hg (by kernel_rfl)) (by kernel_rfl) (by kernel_rfl) (by kernel_rfl) ?_
  refine WE.adv (j' := 10) 1 (by kernel_rfl) (by kernel_rfl) ?_
  refine WE.opm (string_q (K := K) hq hne hl hb hc hk he) (by kernel_rfl) (by kernel_rfl) ?_
  refine WE.fin (by kernel_rfl) ?_
  refine W.ret ?_
  exact RetX.k (h' := (frzOne h id b)) (P := fun _ => True) trivial (v' := .str s) (by rfl) (by kernel_rfl) (by kernel_rfl) (by kernel_rfl)

theorem string_c {n : Nat} (hn : 1 ≤ n) {p : Nat} {h0 h : Heap} {s : List UInt8} (w : Wr h0 h p s) (hne : s ≠ []) (hl : s.length ≤ 1000000000000) : ∃ h', (fns (Cg K) n).call 65 [.ptrO p 0] h none = some (.val (.str s) h' none) ∧ True := by
  obtain ⟨_, _, _, g, ver, a, x, hg, ha, O⟩ := w
  rcases O with ⟨_, e⟩ | ⟨_, id, b, rfl, hb, hc, hf, hk, he, _⟩
  · exact absurd e hne
  · obtain ⟨q, hq⟩ : ∃ q, s.length = q + 1 := by cases s with | nil => exact absurd rfl hne | cons a s => exact ⟨_, rfl⟩
    rw [hq] at hg
    exact string_c1 hn hne hl hb hc hk he hg hq
theorem wr_start (e : Ev) : Wr (hpL [bk 0 37 true 0 e.elv, bk 1 130 true 0 [.nilp, .nils]]) (hpL [bk 0 37 true 0 e.elv, bk 1 130 true 0 [.nilp, .nils]]) 1 [] := by
  have W : GW (hpL [bk 0 37 true 0 e.elv, bk 1 130 true 0 [.nilp, .nils]]) := by
    have : hpL [bk 0 37 true 0 e.elv, bk 1 130 true 0 [.nilp, .nils]] = (Heap.empty.new 37 true e.elv).new 130 true [.nilp, .nils] := by kernel_rfl
    rw [this]
    exact GW.empty.new.new
  exact ⟨W, Kp.refl _ _, W, 1, 0, .nilp, .nils, by kernel_rfl, .inl rfl, .inl ⟨rfl, rfl⟩⟩
set_option maxRecDepth 20000 in
theorem line_c {n : Nat} {d : Nat} (hn : d + 7 ≤ n) (e : Ev) (hd : e.val.dep ≤ d) (hv : e.val.ok) (he : e.sm) (hK : big ≤ K)  (h : Heap) : (fns (Cg K) n).call 43 [.agg e.elv] h none = some (.val (.str (lineT e)) h none) := by
  obtain ⟨m, rfl⟩ : ∃ m, n = m + 1 := ⟨n - 1, by omega⟩
  refine pureq (C := Cg K) (F := fns (Cg K) m) (fn := Tryz.f43) (c := bodyOf Tryz.f43) (by kernel_rfl) (by kernel_rfl) (by kernel_rfl) (noL (aggElv _) rfl) (by kernel_rfl) (by kernel_rfl) (by kernel_rfl) ?_ h
  refine W.seq ?_
  refine W.region ?_
  refine WO.fin (by kernel_rfl) ?_
  refine W.seq ?_
  refine W.region ?_
  refine WO.fin (by kernel_rfl) ?_
  refine W.seq ?_
  refine W.region ?_
  refine WO.adv 3 (by kernel_rfl) ?_
  obtain ⟨h1, hc1, w1⟩ := numb_c (n := m) (by omega) (x := e.comp) (b := [32]) (h := (hpL [bk 0 37 true 0 e.elv, bk 1 130 true 0 [.nilp, .nils]])) (p := 1) (s := []) (wr_start e) (by have := he.text; have := he.name; have := he.cnt; have := itoa_le (he.comp); first | omega | (simp only [List.length_append, List.length_cons, List.length_nil]; omega)) (he.comp)
  have W1 := Wr.back (wr_start e) w1; have hn1 := Wr.le w1
  refine WO.callh (by kernel_rfl) (by kernel_rfl) hc1 ?_
  refine WO.nil ?_
  refine W.seq ?_
  refine W.region ?_
  refine WO.adv 2 (by kernel_rfl) ?_
  refine WO.opk (y := keep h1 (opLoad (Cg K) h1 3 (.ptrO 0 1))) (x := .int .i64 e.kind) (h' := h1) (load_k (Wr.kept (b := bk 0 37 true 0 e.elv) w1 (by kernel_rfl) (show 37 ≠ 5 by decide) (by omega)) (by kernel_rfl)) (by kernel_rfl) ?_
  obtain ⟨h2, hc2, w2⟩ := numb_c (n := m) (by omega) (x := e.kind) (b := [32]) (h := h1) (p := 1) (s := ([] ++ (Lib.itoa e.comp ++ [32]))) W1 (by have := itoa_le (he.comp); have := he.text; have := he.name; have := he.cnt; have := itoa_le (he.kind); first | omega | (simp only [List.length_append, List.length_cons, List.length_nil]; omega)) (he.kind)
  have W2 := Wr.back W1 w2; have hn2 := Wr.le w2
  refine WO.callh (by kernel_rfl) (by kernel_rfl) hc2 ?_
  refine WO.nil ?_
  refine W.seq ?_
  refine W.region ?_
  refine WO.adv 2 (by kernel_rfl) ?_
  refine WO.opk (y := keep h2 (opLoad (Cg K) h2 3 (.ptrO 0 10))) (x := .int .i64 e.other) (h' := h2) (load_k (Wr.kept (b := bk 0 37 true 0 e.elv) w2 (Wr.kept (b := bk 0 37 true 0 e.elv) w1 (by kernel_rfl) (show 37 ≠ 5 by decide) (by omega)) (show 37 ≠ 5 by decide) (by omega)) (by kernel_rfl)) (by kernel_rfl) ?_
  obtain ⟨h3, hc3, w3⟩ := numb_c (n := m) (by omega) (x := e.other) (b := [32]) (h := h2) (p := 1) (s := (([] ++ (Lib.itoa e.comp ++ [32])) ++ (Lib.itoa e.kind ++ [32]))) W2 (by have := itoa_le (he.comp); have := itoa_le (he.kind); have := he.text; have := he.name; have := he.cnt; have := itoa_le (he.other); first | omega | (simp only [List.length_append, List.length_cons, List.length_nil]; omega)) (he.other)
  have W3 := Wr.back W2 w3; have hn3 := Wr.le w3
  refine WO.callh (by kernel_rfl) (by kernel_rfl) hc3 ?_
  refine WO.nil ?_
  refine W.seq ?_
  refine W.region ?_
  refine WO.adv 2 (by kernel_rfl) ?_
  refine WO.opk (y := keep h3 (opLoad (Cg K) h3 9 (.ptrO 0 2))) (x := .str e.text) (h' := h3) (load_k (Wr.kept (b := bk 0 37 true 0 e.elv) w3 (Wr.kept (b := bk 0 37 true 0 e.elv) w2 (Wr.kept (b := bk 0 37 true 0 e.elv) w1 (by kernel_rfl) (show 37 ≠ 5 by decide) (by omega)) (show 37 ≠ 5 by decide) (by omega)) (show 37 ≠ 5 by decide) (by omega)) (by kernel_rfl)) (by kernel_rfl) ?_
  obtain ⟨h4, hc4, w4⟩ := text_c (n := m) (by omega) (t := e.text) (h := h3) (p := 1) (s := ((([] ++ (Lib.itoa e.comp ++ [32])) ++ (Lib.itoa e.kind ++ [32])) ++ (Lib.itoa e.other ++ [32]))) W3 (by have := itoa_le (he.comp); have := itoa_le (he.kind); have := itoa_le (he.other); have := he.text; have := he.name; have := he.cnt; have := txt_len (s := e.text) (by have := he.text; omega); first | omega | (simp only [List.length_append, List.length_cons, List.length_nil]; omega))
  have W4 := Wr.back W3 w4; have hn4 := Wr.le w4
  refine WO.callh (by kernel_rfl) (by kernel_rfl) hc4 ?_
  refine WO.nil ?_
  refine W.seq ?_
  refine W.region ?_
  refine WO.adv 3 (by kernel_rfl) ?_
  obtain ⟨h5, hc5, w5⟩ := wstr_c (n := m) (by omega) (t := [32]) (h := h4) (p := 1) (s := (((([] ++ (Lib.itoa e.comp ++ [32])) ++ (Lib.itoa e.kind ++ [32])) ++ (Lib.itoa e.other ++ [32])) ++ (txt e.text))) W4 (by have := itoa_le (he.comp); have := itoa_le (he.kind); have := itoa_le (he.other); have := txt_len (s := e.text) (by have := he.text; omega); have := he.text; have := he.name; have := he.cnt; first | omega | (simp only [List.length_append, List.length_cons, List.length_nil]; omega))
  have W5 := Wr.back W4 w5; have hn5 := Wr.le w5
  refine WO.callh (by kernel_rfl) (by kernel_rfl) hc5 ?_
  refine WO.nil ?_
  refine W.seq ?_
  refine W.region ?_
  refine WO.adv 2 (by kernel_rfl) ?_
  refine WO.opk (y := keep h5 (opLoad (Cg K) h5 9 (.ptrO 0 3))) (x := .str e.name) (h' := h5) (load_k (Wr.kept (b := bk 0 37 true 0 e.elv) w5 (Wr.kept (b := bk 0 37 true 0 e.elv) w4 (Wr.kept (b := bk 0 37 true 0 e.elv) w3 (Wr.kept (b := bk 0 37 true 0 e.elv) w2 (Wr.kept (b := bk 0 37 true 0 e.elv) w1 (by kernel_rfl) (show 37 ≠ 5 by decide) (by omega)) (show 37 ≠ 5 by decide) (by omega)) (show 37 ≠ 5 by decide) (by omega)) (show 37 ≠ 5 by decide) (by omega)) (show 37 ≠ 5 by decide) (by omega)) (by kernel_rfl)) (by kernel_rfl) ?_
  obtain ⟨h6, hc6, w6⟩ := text_c (n := m) (by omega) (t := e.name) (h := h5) (p := 1) (s := ((((([] ++ (Lib.itoa e.comp ++ [32])) ++ (Lib.itoa e.kind ++ [32])) ++ (Lib.itoa e.other ++ [32])) ++ (txt e.text)) ++ [32])) W5 (by have := itoa_le (he.comp); have := itoa_le (he.kind); have := itoa_le (he.other); have := txt_len (s := e.text) (by have := he.text; omega); have := he.text; have := he.name; have := he.cnt; have := txt_len (s := e.name) (by have := he.name; omega); first | omega | (simp only [List.length_append, List.length_cons, List.length_nil]; omega))
  have W6 := Wr.back W5 w6; have hn6 := Wr.le w6
  refine WO.callh (by kernel_rfl) (by kernel_rfl) hc6 ?_
  refine WO.nil ?_
  refine W.seq ?_
  refine W.region ?_
  refine WO.adv 3 (by kernel_rfl) ?_
  obtain ⟨h7, hc7, w7⟩ := wstr_c (n := m) (by omega) (t := [32]) (h := h6) (p := 1) (s := (((((([] ++ (Lib.itoa e.comp ++ [32])) ++ (Lib.itoa e.kind ++ [32])) ++ (Lib.itoa e.other ++ [32])) ++ (txt e.text)) ++ [32]) ++ (txt e.name))) W6 (by have := itoa_le (he.comp); have := itoa_le (he.kind); have := itoa_le (he.other); have := txt_len (s := e.text) (by have := he.text; omega); have := txt_len (s := e.name) (by have := he.name; omega); have := he.text; have := he.name; have := he.cnt; first | omega | (simp only [List.length_append, List.length_cons, List.length_nil]; omega))
  have W7 := Wr.back W6 w7; have hn7 := Wr.le w7
  refine WO.callh (by kernel_rfl) (by kernel_rfl) hc7 ?_
  refine WO.nil ?_
  refine W.seq ?_
  refine W.region ?_
  refine WO.adv 2 (by kernel_rfl) ?_
  refine WO.opk (y := keep h7 (opLoad (Cg K) h7 35 (.ptrO 0 4))) (x := .agg e.val.six) (h' := h7) (load_k (Wr.kept (b := bk 0 37 true 0 e.elv) w7 (Wr.kept (b := bk 0 37 true 0 e.elv) w6 (Wr.kept (b := bk 0 37 true 0 e.elv) w5 (Wr.kept (b := bk 0 37 true 0 e.elv) w4 (Wr.kept (b := bk 0 37 true 0 e.elv) w3 (Wr.kept (b := bk 0 37 true 0 e.elv) w2 (Wr.kept (b := bk 0 37 true 0 e.elv) w1 (by kernel_rfl) (show 37 ≠ 5 by decide) (by omega)) (show 37 ≠ 5 by decide) (by omega)) (show 37 ≠ 5 by decide) (by omega)) (show 37 ≠ 5 by decide) (by omega)) (show 37 ≠ 5 by decide) (by omega)) (show 37 ≠ 5 by decide) (by omega)) (show 37 ≠ 5 by decide) (by omega)) (by kernel_rfl)) (by kernel_rfl) ?_
  obtain ⟨h8, hc8, w8⟩ := wvalue_c hK d e.val hd hv he.val m (by omega) (h := h7) (p := 1) (s := ((((((([] ++ (Lib.itoa e.comp ++ [32])) ++ (Lib.itoa e.kind ++ [32])) ++ (Lib.itoa e.other ++ [32])) ++ (txt e.text)) ++ [32]) ++ (txt e.name)) ++ [32])) W7 (by have := itoa_le (he.comp); have := itoa_le (he.kind); have := itoa_le (he.other); have := txt_len (s := e.text) (by have := he.text; omega); have := txt_len (s := e.name) (by have := he.name; omega); have := he.text; have := he.name; have := he.cnt; have := valText_len he.val hv; first | omega | (simp only [List.length_append, List.length_cons, List.length_nil]; omega))
  have W8 := Wr.back W7 w8; have hn8 := Wr.le w8
  refine WO.callh (by kernel_rfl) (by kernel_rfl) hc8 ?_
  refine WO.nil ?_
  refine W.seq ?_
  refine W.region ?_
  refine WO.adv 3 (by kernel_rfl) ?_
  obtain ⟨h9, hc9, _⟩ := string_c (n := m) (by omega) (s := (((((((([] ++ (Lib.itoa e.comp ++ [32])) ++ (Lib.itoa e.kind ++ [32])) ++ (Lib.itoa e.other ++ [32])) ++ (txt e.text)) ++ [32]) ++ (txt e.name)) ++ [32]) ++ (valText e.val))) W8 (by simp) (by have := itoa_le (he.comp); have := itoa_le (he.kind); have := itoa_le (he.other); have := txt_len (s := e.text) (by have := he.text; omega); have := txt_len (s := e.name) (by have := he.name; omega); have := valText_len he.val hv; have := he.text; have := he.name; have := he.cnt; simp only [List.length_append, List.length_cons, List.length_nil]; omega)
  refine WO.callh (by kernel_rfl) (by kernel_rfl) hc9 ?_
  refine WO.fin (by kernel_rfl) ?_
  refine W.ret ?_
  exact RetQ.k (v' := .str (((((((([] ++ (Lib.itoa e.comp ++ [32])) ++ (Lib.itoa e.kind ++ [32])) ++ (Lib.itoa e.other ++ [32])) ++ (txt e.text)) ++ [32]) ++ (txt e.name)) ++ [32]) ++ (valText e.val))) (by exact congrArg AV.str (by simp only [lineT, List.nil_append, List.append_assoc])) (by kernel_rfl) (by kernel_rfl)

end
end Go.Abs
namespace Go.Abs
noncomputable section
open Go Go.Proofs
variable {K : Nat}
/-! ## Lists of texts -/
def textsA (b : Bool) (l : List (List UInt8)) : AV := sliceA b (l.map .str) l.length
section
variable {h : Heap} {b : Bool} {l : List (List UInt8)} {i : Nat}
def asV (b : Bool) (l : List (List UInt8)) : Val := .mk 0 0 0 [] b l true []
theorem texts_len : builtinA (Cg K) h .len #[29] [textsA b l] = some (.int .i64 ((l.length : Nat) : Int), h) := names_len (v := asV b l)
theorem texts_at (hi : i < l.length) : keep h (opIndexAddr (Cg K) 29 (textsA b l) (.int .i64 ((i : Nat) : Int))) = some (.ptrR (l.map .str) (Nat.add 0 (Nat.mul i 1)), h) := names_at (v := asV b l) hi
theorem text_get (hi : i < l.length) : keep h (opLoad (Cg K) h 9 (.ptrR (l.map .str) (Nat.add 0 (Nat.mul i 1)))) = some (.str (l.getD i []), h) := name_get (v := asV true l) hi
end
/-- so many texts as one's own slice -/
def OwnTx (h : Heap) (v : AV) (l : List (List UInt8)) (bd : Nat) : Prop := OwnSl h v 9 1 (l.map .str) l.length bd
theorem OwnTx.nil (h : Heap) : OwnTx h .nils [] h.next := OwnSl.nil h 9 1
theorem OwnTx.at {s : St} {k : Nat} {h : Heap} {x : AV} {l l' : List (List UInt8)} (he : s.h = h) (hv : s.v k = x) (hl : l = l') (O : OwnTx h x l h.next) : OwnTx s.h (s.v k) l' s.h.next := by
  subst hl; exact OwnSl.at he hv O
theorem OwnTx.new {h : Heap} {v : AV} {l : List (List UInt8)} {bd el : Nat} {wh : Bool} {c : List AV} (O : OwnTx h v l bd) : OwnTx (h.new el wh c) v l bd := OwnSl.new O
theorem OwnTx.set {h : Heap} {v : AV} {l : List (List UInt8)} {bd j : Nat} {b' : Blk} (hj : bd ≤ j) (O : OwnTx h v l bd) : OwnTx (h.set j b') v l bd := OwnSl.set hj O
theorem OwnTx.grow {h : Heap} {v : AV} {l : List (List UInt8)} {bd : Nat} (O : OwnTx h v l bd) : OwnTx h v l h.next := OwnSl.grow O
theorem OwnTx.freeze {h : Heap} {v : AV} {l : List (List UInt8)} {bd k : Nat} (O : OwnTx h v l bd) : freezeA h (k + 2) v = some (textsA true l) := by
  refine freeze_own O fun c hc => ?_
  obtain ⟨e, _, rfl⟩ := List.mem_map.1 hc
  rfl
/-! ## The lines of events -/
def longL (e : Ev) : Bool := decide (((lenN (lineT e) : Nat) : Int) > 4000)
def fmtE (e : Ev) : Int := bif evErr e != 0 then evErr e else bif longL e then 32 else 0
def fmtS (e : Ev) : List UInt8 := bif fmtE e != 0 then [] else lineT e
theorem fmtE_right {e : Ev} (h : evErr e = 0) : fmtE e = bif longL e then 32 else 0 := by unfold fmtE; rw [h]; rfl
end
end Go.Abs
namespace Go.Abs
noncomputable section
open Go Go.Proofs
variable {K : Nat}
set_option maxRecDepth 20000 in
theorem formatEvent_c {n : Nat} {d : Nat} (hn : d + 8 ≤ n) (e : Ev) (hd : e.val.dep ≤ d) (hv : e.val.ok) (hK : big ≤ K)  (h : Heap) : (fns (Cg K) n).call 22 [.agg e.elv] h none = some (.val (.tup [.str (fmtS e), .int .i64 (fmtE e)]) h none) := by
  obtain ⟨m, rfl⟩ : ∃ m, n = m + 1 := ⟨n - 1, by omega⟩
  refine pureq (C := Cg K) (F := fns (Cg K) m) (fn := Tryz.f22) (c := bodyOf Tryz.f22) (by kernel_rfl) (by kernel_rfl) (by kernel_rfl) (noL (aggElv _) rfl) (by kernel_rfl) (by kernel_rfl) (by kernel_rfl) ?_ h
  refine W.seq ?_
  refine W.region ?_
  refine WO.fin (by kernel_rfl) ?_
  refine W.seq ?_
  refine W.seq ?_
  refine W.region ?_
  refine WO.adv 1 (by kernel_rfl) ?_
  refine WO.callp (by kernel_rfl) (logsEventErr_c (d := d) (by omega) e hd hv hK _) ?_
  refine WO.fin (by kernel_rfl) ?_
  refine W.seq ?_
  refine W.region ?_
  refine WO.fin (by kernel_rfl) ?_
  refine W.cond ((evErr e) != 0) (by kernel_rfl) (fun hb1 => ?_) (fun hb1 => ?_)
  · refine W.sub 9 hb1 (by kernel_rfl) ?_
    refine W.seq ?_
    refine W.region ?_
    refine WO.fin (by kernel_rfl) ?_
    refine W.ret ?_
    exact RetQ.k (v' := .tup [.str [], .int .i64 (evErr e)]) (by unfold fmtS fmtE longL; simp [hb1]) (by kernel_rfl) (by kernel_rfl)
  · refine W.sub 9 hb1 (by kernel_rfl) ?_
    refine W.skip ?_
    refine W.seq ?_
    refine W.region ?_
    refine WO.adv 1 (by kernel_rfl) ?_
    refine WO.callp (by kernel_rfl) (line_c (d := d) (by omega) e hd hv (ev_sm (by simpa using hb1)) hK _) ?_
    refine WO.fin (by kernel_rfl) ?_
    refine W.seq ?_
    refine W.seq ?_
    refine W.region ?_
    refine WO.fin (by kernel_rfl) ?_
    refine W.cond (decide (((lenN (lineT e) : Nat) : Int) > 4000)) (by kernel_rfl) (fun hb2 => ?_) (fun hb2 => ?_)
    · refine W.sub 15 hb2 (by kernel_rfl) ?_
      refine W.seq ?_
      refine W.region ?_
      refine WO.fin (by kernel_rfl) ?_
      refine W.ret ?_
      exact RetQ.k (v' := .tup [.str [], .int .i64 32]) (by unfold fmtS fmtE longL; simp [hb1, hb2]) (by kernel_rfl) (by kernel_rfl)
    · refine W.sub 15 hb2 (by kernel_rfl) ?_
      refine W.skip ?_
      refine W.seq ?_
      refine W.region ?_
      refine WO.fin (by kernel_rfl) ?_
      refine W.ret ?_
      exact RetQ.k (v' := .tup [.str (lineT e), .int .i64 0]) (by unfold fmtS fmtE longL; simp [hb1, hb2]) (by kernel_rfl) (by kernel_rfl)

end
end Go.Abs
namespace Go.Abs
noncomputable section
open Go Go.Proofs
variable {K : Nat}
section
variable {l : List Ev} {e : Ev}
end
end
end Go.Abs
namespace Go.Abs
noncomputable section
open Go Go.Proofs
variable {K : Nat}
end
end Go.Abs
