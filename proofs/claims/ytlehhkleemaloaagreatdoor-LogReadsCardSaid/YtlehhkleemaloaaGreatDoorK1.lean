/- A part of the proofs of the laws of logs: see the last text of this claim. -/
import Derived.Shelf.LaysC
import Derived.Shelf.Strconv.AtoiAll
import Derived.Test.YtlehhkleemaloaaGreatDoorProg
import Derived.Test.YtlehhkleemaloaaGreatDoorK0
import Derived.Test.YtlehhkleemaloaaGreatDoorB3
namespace Go.Abs
noncomputable section
open Go Go.Proofs
def namesOk : List Func → Bool := List.rec true fun fn _ ih => !(fn.name == "runtime.NumGoroutine") && ih
theorem namesOk_mem : ∀ (l : List Func), namesOk l = true → ∀ fn ∈ l, fn.name ≠ "runtime.NumGoroutine"
  | [], _, fn, h => by cases h
  | a :: l, h, fn, hm => by
    have h : (!(a.name == "runtime.NumGoroutine") && namesOk l) = true := h
    rw [Bool.and_eq_true] at h
    rcases List.mem_cons.1 hm with rfl | hm
    · have := h.1; simpa using this
    · exact namesOk_mem l h.2 fn hm
theorem names_all : namesOk Tryz.prog.funcs.toList = true := by kernel_rfl
theorem name_of (f : Nat) (fn : Func) (h : Tryz.prog.funcs[f]? = some fn) : fn.name ≠ "runtime.NumGoroutine" :=
  namesOk_mem _ names_all fn (by rw [← Array.getElem?_toList] at h; exact List.mem_of_getElem? h)
theorem mixed : Tryz.prog.follows .mixedOrders = true := by kernel_rfl
theorem ext111 {C : Cfg} (hP : C.P = Tryz.prog) (he : C.ext = extG) : ∀ f e, C.ext f = some e → ∀ args h v h' pn, externA h e args = some (v, h') → CallOk C f args h pn (.val v h' pn) := by
  intro f e hf args h v h' pn hx
  rw [he] at hf
  unfold extG at hf
  cases hb : Nat.beq f 111 with
  | false => rw [hb] at hf; cases hf
  | true =>
    rw [hb] at hf
    cases hf
    have : f = 111 := Nat.eq_of_beq_eq_true hb
    subst this
    refine ext_same (fn := Tryz.f111) (by rw [hP]; kernel_rfl) (by kernel_rfl) (name_of 111 Tryz.f111 (by kernel_rfl)) (by kernel_rfl) (by kernel_rfl) hx
theorem CallOk.to {C D : Cfg} (hP : C.P = D.P) (hg : C.glob = D.glob) (ho : C.gobj = D.gobj) (hn : C.nodef = D.nodef) {f : FuncId} {args : List AV} {h : Heap} {pn : Option AV} {res : Res} (K : CallOk C f args h pn res) : CallOk D f args h pn res := by
  intro w F μ vs G H r
  have G' : GRel C w F := ⟨fun g => by rw [hg]; exact G.at_ g, fun g vs e => G.obj g vs (by rw [← ho]; exact e)⟩
  have := K w F μ vs G' H r
  rw [hP, hn] at this
  exact this
theorem given0 : Given C0 := ⟨ext111 rfl rfl, fun f args v h => (by cases h), name_of⟩
theorem given1 : Given C1 := by
  refine ⟨ext111 rfl rfl, fun f args v hs h => ?_, name_of⟩
  have hs : spec1 f args = some v := hs
  unfold spec1 at hs
  cases h1 : Nat.beq f 30 with
  | true =>
    have : f = 30 := Nat.eq_of_beq_eq_true h1
    subst this
    rw [h1] at hs
    simp only [cond_true] at hs
    split at hs
    · cases hs
      exact CallOk.to (C := C0) (D := C1) rfl rfl rfl rfl (run_ok (C := C0) given0 mixed (example_ok h))
    · cases hs
  | false =>
    rw [h1] at hs
    simp only [cond_false] at hs
    cases h2 : Nat.beq f 75 with
    | false => rw [h2] at hs; cases hs
    | true =>
      have : f = 75 := Nat.eq_of_beq_eq_true h2
      subst this
      rw [h2] at hs
      simp only [cond_true] at hs
      cases h3 : beqL (beqAV 64) args [exPE] with
      | false => rw [h3] at hs; cases hs
      | true =>
        rw [h3] at hs
        cases hs
        have : args = [exPE] := beqL_sound (beqAV_sound 64) _ _ h3
        subst this
        exact CallOk.to (C := C0) (D := C1) rfl rfl rfl rfl (run_ok (C := C0) given0 mixed (check_ok h))
end
end Go.Abs
namespace Go.Proofs
open Go.Shelf
def Tryz.laysC172_ren : Go.Shelf.Ren := ⟨fun | 172 => 68 | 244 => 88 | 245 => 89 | 247 => 112 | 279 => 113 | 280 => 114 | 281 => 115 | 282 => 116 | 287 => 161 | 316 => 162 | 171 => 69 | 205 => 163 | 321 => 230 | 322 => 231 | 243 => 90 | 246 => 117 | 283 => 164 | 284 => 165 | 285 => 166 | 286 => 167 | 129 => 233 | 317 => 232 | 318 => 234 | 319 => 235 | 320 => 236 | 337 => 314 | 338 => 315 | n => n, fun | 9 => 9 | 3 => 3 | 75 => 133 | 76 => 134 | 4 => 4 | 5 => 5 | 167 => 207 | 37 => 126 | 0 => 0 | 85 => 208 | 2 => 2 | 168 => 210 | 53 => 270 | 175 => 271 | 46 => 273 | 210 => 275 | 127 => 175 | 145 => 351 | 143 => 349 | 21 => 21 | 171 => 277 | 173 => 280 | 212 => 353 | 51 => 354 | 20 => 20 | 213 => 355 | 232 => 457 | 233 => 458 | 80 => 85 | n => n, fun | 15 => 0 | 16 => 1 | 17 => 2 | 18 => 3 | 19 => 4 | n => n⟩
theorem Tryz.laysC172 : Go.Proofs.LaysC.n172 Tryz.prog Tryz.laysC172_ren := {
  mixed := by kernel_rfl
  f129 := Tryz.func233.trans (congrArg some (by kernel_rfl))
  f171 := Tryz.func69.trans (congrArg some (by kernel_rfl))
  f172 := Tryz.func68.trans (congrArg some (by kernel_rfl))
  f205 := Tryz.func163.trans (congrArg some (by kernel_rfl))
  f243 := Tryz.func90.trans (congrArg some (by kernel_rfl))
  f244 := Tryz.func88.trans (congrArg some (by kernel_rfl))
  f245 := Tryz.func89.trans (congrArg some (by kernel_rfl))
  f246 := Tryz.func117.trans (congrArg some (by kernel_rfl))
  f247 := Tryz.func112.trans (congrArg some (by kernel_rfl))
  f279 := Tryz.func113.trans (congrArg some (by kernel_rfl))
  f280 := Tryz.func114.trans (congrArg some (by kernel_rfl))
  f281 := Tryz.func115.trans (congrArg some (by kernel_rfl))
  f282 := Tryz.func116.trans (congrArg some (by kernel_rfl))
  f283 := Tryz.func164.trans (congrArg some (by kernel_rfl))
  f284 := Tryz.func165.trans (congrArg some (by kernel_rfl))
  f285 := Tryz.func166.trans (congrArg some (by kernel_rfl))
  f286 := Tryz.func167.trans (congrArg some (by kernel_rfl))
  f287 := Tryz.func161.trans (congrArg some (by kernel_rfl))
  f316 := Tryz.func162.trans (congrArg some (by kernel_rfl))
  f317 := Tryz.func232.trans (congrArg some (by kernel_rfl))
  f318 := Tryz.func234.trans (congrArg some (by kernel_rfl))
  f319 := Tryz.func235.trans (congrArg some (by kernel_rfl))
  f320 := Tryz.func236.trans (congrArg some (by kernel_rfl))
  f321 := Tryz.func230.trans (congrArg some (by kernel_rfl))
  f322 := Tryz.func231.trans (congrArg some (by kernel_rfl))
  f337 := Tryz.func314.trans (congrArg some (by kernel_rfl))
  f338 := Tryz.func315.trans (congrArg some (by kernel_rfl))
  t0 := Tryz.underlying0
  a0 := Tryz.isAgg0
  z0 := Tryz.sizeOf0
  v0 := Tryz.zeroValue0
  t2 := Tryz.underlying2
  a2 := Tryz.isAgg2
  z2 := Tryz.sizeOf2
  v2 := Tryz.zeroValue2
  t3 := Tryz.underlying3
  a3 := Tryz.isAgg3
  z3 := Tryz.sizeOf3
  v3 := Tryz.zeroValue3
  t4 := Tryz.underlying4
  a4 := Tryz.isAgg4
  z4 := Tryz.sizeOf4
  v4 := Tryz.zeroValue4
  t5 := Tryz.underlying5
  a5 := Tryz.isAgg5
  z5 := Tryz.sizeOf5
  v5 := Tryz.zeroValue5
  t9 := Tryz.underlying9
  a9 := Tryz.isAgg9
  z9 := Tryz.sizeOf9
  v9 := Tryz.zeroValue9
  t20 := Tryz.underlying20
  a20 := Tryz.isAgg20
  z20 := Tryz.sizeOf20
  v20 := Tryz.zeroValue20
  t21 := Tryz.underlying21
  a21 := Tryz.isAgg21
  z21 := Tryz.sizeOf21
  v21 := Tryz.zeroValue21
  t37 := Tryz.underlying126
  a37 := Tryz.isAgg126
  z37 := Tryz.sizeOf126
  v37 := Tryz.zeroValue126
  t46 := Tryz.underlying273
  a46 := Tryz.isAgg273
  z46 := Tryz.sizeOf273
  v46 := Tryz.zeroValue273
  t51 := Tryz.underlying354
  a51 := Tryz.isAgg354
  z51 := Tryz.sizeOf354
  v51 := Tryz.zeroValue354
  t53 := Tryz.underlying270
  a53 := Tryz.isAgg270
  z53 := Tryz.sizeOf270
  v53 := Tryz.zeroValue270
  t75 := Tryz.underlying133
  a75 := Tryz.isAgg133
  z75 := Tryz.sizeOf133
  v75 := Tryz.zeroValue133
  t76 := Tryz.underlying134
  a76 := Tryz.isAgg134
  z76 := Tryz.sizeOf134
  v76 := Tryz.zeroValue134
  t85 := Tryz.underlying208
  a85 := Tryz.isAgg208
  z85 := Tryz.sizeOf208
  v85 := Tryz.zeroValue208
  t127 := Tryz.underlying175
  a127 := Tryz.isAgg175
  z127 := Tryz.sizeOf175
  v127 := Tryz.zeroValue175
  t143 := Tryz.underlying349
  a143 := Tryz.isAgg349
  z143 := Tryz.sizeOf349
  v143 := Tryz.zeroValue349
  t145 := Tryz.underlying351
  a145 := Tryz.isAgg351
  z145 := Tryz.sizeOf351
  v145 := Tryz.zeroValue351
  t167 := Tryz.underlying207
  a167 := Tryz.isAgg207
  z167 := Tryz.sizeOf207
  v167 := Tryz.zeroValue207
  t168 := Tryz.underlying210
  a168 := Tryz.isAgg210
  z168 := Tryz.sizeOf210
  v168 := Tryz.zeroValue210
  t171 := Tryz.underlying277
  a171 := Tryz.isAgg277
  z171 := Tryz.sizeOf277
  v171 := Tryz.zeroValue277
  t173 := Tryz.underlying280
  a173 := Tryz.isAgg280
  z173 := Tryz.sizeOf280
  v173 := Tryz.zeroValue280
  t175 := Tryz.underlying271
  a175 := Tryz.isAgg271
  z175 := Tryz.sizeOf271
  v175 := Tryz.zeroValue271
  t210 := Tryz.underlying275
  a210 := Tryz.isAgg275
  z210 := Tryz.sizeOf275
  v210 := Tryz.zeroValue275
  t212 := Tryz.underlying353
  a212 := Tryz.isAgg353
  z212 := Tryz.sizeOf353
  v212 := Tryz.zeroValue353
  t213 := Tryz.underlying355
  a213 := Tryz.isAgg355
  z213 := Tryz.sizeOf355
  t232 := Tryz.underlying457
  a232 := Tryz.isAgg457
  z232 := Tryz.sizeOf457
  v232 := Tryz.zeroValue457
  t233 := Tryz.underlying458
  a233 := Tryz.isAgg458
  z233 := Tryz.sizeOf458
  v233 := Tryz.zeroValue458
  g15 := by kernel_rfl
  g16 := by kernel_rfl
  g17 := by kernel_rfl
  g18 := by kernel_rfl
  g19 := by kernel_rfl
  t80 := Tryz.underlying85
  a80 := Tryz.isAgg85
  z80 := Tryz.sizeOf85
  v80 := Tryz.zeroValue85
  i0 := by kernel_rfl
  i2 := by kernel_rfl
  i3 := by kernel_rfl
  i4 := by kernel_rfl
  i5 := by kernel_rfl
  i9 := by kernel_rfl
  i20 := by kernel_rfl
  i21 := by kernel_rfl
  i37 := by kernel_rfl
  i46 := by kernel_rfl
  i51 := by kernel_rfl
  i53 := by kernel_rfl
  i75 := by kernel_rfl
  i76 := by kernel_rfl
  i80 := by kernel_rfl
  i85 := by kernel_rfl
  i127 := by kernel_rfl
  i143 := by kernel_rfl
  i145 := by kernel_rfl
  i167 := by kernel_rfl
  i168 := by kernel_rfl
  i171 := by kernel_rfl
  i173 := by kernel_rfl
  i175 := by kernel_rfl
  i210 := by kernel_rfl
  i212 := by kernel_rfl
  i232 := by kernel_rfl
  i233 := by kernel_rfl
  m15 := by kernel_rfl
  m16 := by kernel_rfl
  m17 := by kernel_rfl
  m18 := by kernel_rfl
  m19 := by kernel_rfl
  c0 := by kernel_rfl
  c2 := by kernel_rfl
  c3 := by kernel_rfl
  c4 := by kernel_rfl
  c5 := by kernel_rfl
  c9 := by kernel_rfl
  c20 := by kernel_rfl
  c21 := by kernel_rfl
  c37 := by kernel_rfl
  c46 := by kernel_rfl
  c51 := by kernel_rfl
  c53 := by kernel_rfl
  c75 := by kernel_rfl
  c76 := by kernel_rfl
  c80 := by kernel_rfl
  c85 := by kernel_rfl
  c127 := by kernel_rfl
  c143 := by kernel_rfl
  c145 := by kernel_rfl
  c167 := by kernel_rfl
  c168 := by kernel_rfl
  c171 := by kernel_rfl
  c173 := by kernel_rfl
  c175 := by kernel_rfl
  c210 := by kernel_rfl
  c212 := by kernel_rfl
  c213 := by kernel_rfl
  c232 := by kernel_rfl
  c233 := by kernel_rfl }
end Go.Proofs
namespace Go.Abs
noncomputable section
open Go Go.Proofs
section
def rnB (x : Int) : Bool := (x != 45) && (decide (x < 48) || decide (x > 57))
set_option maxRecDepth 20000 in
theorem f67_c {n : Nat}  (hn : 1 ≤ n) (x : Int)  {h : Heap}  : (fns C0 n).call 67 [.int .i32 x] h none = some (.val (.bool (rnB x)) h none) := by
  obtain ⟨m, rfl⟩ : ∃ m, n = m + 1 := ⟨n - 1, by omega⟩
  refine plainq (C := C0) (F := fns C0 m) (fn := Tryz.f67) (c := bodyOf Tryz.f67) (by kernel_rfl) (by kernel_rfl) (by kernel_rfl) (by kernel_rfl) (by kernel_rfl) (by kernel_rfl) ?_
  refine W.seq ?_
  refine W.region ?_
  refine WO.fin (by kernel_rfl) ?_
  refine W.seq ?_
  refine W.region ?_
  refine WO.adv 3 (by kernel_rfl) ?_
  refine splitB (x != 45) (fun hb1 => ?_) (fun hb1 => ?_)
  · refine WO.sub 4 hb1 (by kernel_rfl) ?_
    refine WO.sub 5 hb1 (by kernel_rfl) ?_
    refine WO.adv 3 (by kernel_rfl) ?_
    refine splitB (decide (x < 48)) (fun hb2 => ?_) (fun hb2 => ?_)
    · refine WO.sub 7 hb2 (by kernel_rfl) ?_
      refine WO.sub 8 hb2 (by kernel_rfl) ?_
      refine WO.fin (by kernel_rfl) ?_
      refine W.ret ?_
      exact RetN.k (v' := .bool true) (h' := h) (by unfold rnB; simp [*]) (by rfl) (by kernel_rfl) (by kernel_rfl) (by kernel_rfl)
    · refine WO.sub 7 hb2 (by kernel_rfl) ?_
      refine WO.sub 8 hb2 (by kernel_rfl) ?_
      refine WO.fin (by kernel_rfl) ?_
      refine W.ret ?_
      exact RetN.k (v' := .bool (decide (x > 57))) (h' := h) (by unfold rnB; simp [*]) (by rfl) (by kernel_rfl) (by kernel_rfl) (by kernel_rfl)
  · refine WO.sub 4 hb1 (by kernel_rfl) ?_
    refine WO.sub 5 hb1 (by kernel_rfl) ?_
    refine WO.fin (by kernel_rfl) ?_
    refine W.ret ?_
    exact RetN.k (v' := .bool false) (h' := h) (by unfold rnB; simp [*]) (by rfl) (by kernel_rfl) (by kernel_rfl) (by kernel_rfl)

end
end
end Go.Abs
