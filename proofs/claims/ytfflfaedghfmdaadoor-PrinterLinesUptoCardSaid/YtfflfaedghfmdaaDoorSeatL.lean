/- Proc, of the program. -/
import Derived.Test.YtfflfaedghfmdaaDoorSeatK
import Derived.Test.YtfflfaedghfmdaaDoorSeatB
set_option linter.unusedVariables false
set_option linter.unusedSimpArgs false
set_option linter.all false
set_option linter.deprecated false
set_option linter.all false
namespace Go.Proofs.YtfflfaedghfmdaaDoor
open Go.Abs
attribute [local congr] ite_congr
set_option maxRecDepth 100000
/-- a parameter -/
def pmS (x : Pm) : Bytes := x.name ++ [58, 32] ++ tyWord x.type
def headS (p : Pr) : List Bytes := [[112, 114, 111, 99, 32], p.name, [40], joinB [44, 32] (p.params.map pmS), [41, 32, 123]]
/-- the text of a valid procedure -/
def procT (p : Pr) : Bytes := lineS 0 (headS p) ++ ssS p.body 1 ++ lineS 0 [[125]]
def procS (p : Pr) : Bytes := if valS p = 0 then procT p else []
theorem prmF_names : ∀ (l seen : List Pm), prmF seen l = 0 → ∀ x ∈ l, isName x.name = true ∧ 1 ≤ x.type ∧ x.type ≤ 3
  | [], _, _, x, h => by cases h
  | y :: l, seen, h, x, hx => by
    unfold prmF at h
    split at h
    · cases h
    rename_i h1
    split at h
    · cases h
    rename_i h2
    split at h
    · cases h
    rcases List.mem_cons.1 hx with rfl | hx
    · simp at h1 h2
      exact ⟨h1, by omega, by omega⟩
    · exact prmF_names l _ h x hx
theorem prms {p : Pr} (V : Vld p) : p.params.length ≤ 6 ∧ ∀ x ∈ p.params, isName x.name = true ∧ 1 ≤ x.type ∧ x.type ≤ 3 := by
  have h := V.prm
  unfold prmS at h
  split at h
  · cases h
  rename_i h1
  simp at h1
  exact ⟨by omega, prmF_names _ _ h⟩
theorem tyWord_len (t : Int) : (tyWord t).length ≤ 4 := by
  unfold tyWord
  exact ite_len (by decide) (ite_len (by decide) (by decide))
theorem pmS_len {x : Pm} (h : isName x.name = true) : (pmS x).length ≤ 22 := by
  have h1 := name_len h
  have h2 := tyWord_len x.type
  unfold pmS
  simp
  omega
theorem joinB_len (sep : Bytes) (n : Nat) : ∀ l : List Bytes, (∀ x ∈ l, x.length ≤ n) → (joinB sep l).length ≤ l.length * (n + sep.length)
  | [], _ => by simp [joinB]
  | [x], h => by
    have := h x (List.mem_cons_self ..)
    simp [joinB]
    omega
  | x :: y :: l, h => by
    have h1 := h x (List.mem_cons_self ..)
    have h2 := joinB_len sep n (y :: l) (fun z hz => h z (List.mem_cons_of_mem _ hz))
    have e : (x :: y :: l).length * (n + sep.length) = (y :: l).length * (n + sep.length) + (n + sep.length) := by
      rw [List.length_cons, Nat.succ_mul]
    rw [e, joinB]
    · simp only [List.length_append]
      omega
    · simp
theorem head_join {p : Pr} (V : Vld p) : (joinB [44, 32] (p.params.map pmS)).length ≤ 144 := by
  obtain ⟨h1, h2⟩ := prms V
  have h3 := joinB_len [44, 32] 22 (p.params.map pmS) (fun x hx => by
    obtain ⟨y, hy, rfl⟩ := List.mem_map.1 hx
    exact pmS_len (h2 y hy).1)
  rw [List.length_map] at h3
  have : p.params.length * (22 + ([44, 32] : Bytes).length) ≤ 6 * 24 := Nat.mul_le_mul h1 (by decide)
  omega
theorem head_len {p : Pr} (V : Vld p) : (lineS 0 (headS p)).length ≤ 180 := by
  have h1 := head_join V
  have h2 := name_len V.name
  rw [lineS_len]
  unfold headS
  simp
  omega
theorem freeze_end (A : AHeap) (b : ABuf) (os : List AObj) : (⟨os, A.bufs ++ [b]⟩ : AHeap).freeze A.bufs.length = ⟨os, A.bufs ++ [{ b with frozen := b.rows.length }]⟩ := by
  unfold AHeap.freeze
  rw [modify_end]
/-- Join of the strings that were gathered -/
theorem joinAt (A : AHeap) (os : List AObj) (l : List Bytes) (sep : Bytes) (h1 : l.length ≤ 4194303) (h2 : (joinB sep l).length ≤ 140737488355328) :
    ∃ q, acl C 25 [(grS A l).1, .d (.str sep)] ⟨A.objs ++ os, (grS A l).2.bufs⟩ = some (.d (.str (joinB sep l)), ⟨A.objs ++ os, A.bufs ++ q⟩) := by
  have key : ∀ A' : AHeap, acl C 25 [(grS A l).1, .d (.str sep)] A' = joinFn [(grS A l).1, .d (.str sep)] A' := fun A' => by
    rw [acl_ext (c := C) (f := 25) (g := joinFn) rfl]
  rw [key]
  have hm : rowStrs (l.map sRow) = some l := rowStrs_map l
  by_cases hl : l = []
  · subst hl
    refine ⟨[], ?_⟩
    have e : grS A [] = (.nilS, A) := by unfold grS agrow; rfl
    rw [e, List.append_nil]
    rfl
  · have hne : ¬ l.map sRow = [] := by simp [hl]
    have e : grS A l = (.own A.bufs.length l.length, ⟨A.objs, A.bufs ++ [⟨9, 1, l.map sRow, 0⟩]⟩) := by unfold grS agrow; rw [if_neg hne, List.length_map]
    refine ⟨[⟨9, 1, l.map sRow, (l.map sRow).length⟩], ?_⟩
    rw [e]
    have hr : arows ⟨A.objs ++ os, A.bufs ++ [⟨9, 1, l.map sRow, 0⟩]⟩ (.own A.bufs.length l.length) = some (l.map sRow) := by
      unfold arows
      simp
    have hc : acleanVs ⟨A.objs ++ os, A.bufs ++ [⟨9, 1, l.map sRow, 0⟩]⟩ [.own A.bufs.length l.length, .d (.str sep)] = ([.d (.slice (l.map sRow)), .d (.str sep)], ⟨A.objs ++ os, A.bufs ++ [⟨9, 1, l.map sRow, (l.map sRow).length⟩]⟩) := by
      simp only [acleanVs, acleanV, aclean, hr, freeze_end]
    unfold joinFn
    simp only [hc, hm]
    rw [if_pos ⟨by omega, h2⟩]
set_option maxHeartbeats 4000000 in
theorem procP (p : Pr) (hp : p.Ok) (A : AHeap) : acl C 9 [Pr.av p] A = some (.d (.str (procS p)), A) := by
  have v1 := validate p hp
  have f0 : afinR C 9 A A (some (.d (.str []))) = some (.d (.str []), A) := afinR_d (c := C) (f := 9) rfl
  unfold procS
  rw [k_call (c := C) (f := 9) rfl Tryd.func9 rfl (ok 9 (by kernel_rfl)) rfl Tryd.ntmps9 Tryd.results9 (by simp)]
  cases h1 : decide (valS p = 0) with
  | false =>
    rw [if_neg (by simpa using h1)]
    simp (maxSteps := 1000000) only [go_sem, acondK_bool, acB_merge, Nat.reduceLT, Nat.reduceLeDiff, Nat.reduceEqDiff, Nat.reduceAdd, Nat.reduceSub, Nat.reduceMul, Nat.reduceBEq, Nat.reduceBNe, Nat.reduceBneDiff, Nat.reduceBeqDiff, Int.reduceToNat, Int.reduceLE, Int.reduceLT, Int.reduceEq, Int.reduceNe, Int.reduceNeg, Int.reduceAdd, Int.reduceSub, ↓reduceIte, reduceCtorEq, v1, h1, f0]
  | true =>
  have V := (valS_zero p).1 (by simpa using h1)
  rw [if_pos (by simpa using h1)]
  simp (maxSteps := 1000000) only [go_sem, acondK_bool, acB_merge, Nat.reduceLT, Nat.reduceLeDiff, Nat.reduceEqDiff, Nat.reduceAdd, Nat.reduceSub, Nat.reduceMul, Nat.reduceBEq, Nat.reduceBNe, Nat.reduceBneDiff, Nat.reduceBeqDiff, Int.reduceToNat, Int.reduceLE, Int.reduceLT, Int.reduceEq, Int.reduceNe, Int.reduceNeg, Int.reduceAdd, Int.reduceSub, ↓reduceIte, reduceCtorEq, v1, h1]
  obtain ⟨hpl, hpn⟩ := prms V
  refine loop_any (fun pre => [(3, .v (grS A (pre.map pmS)).1), (13, .v (.d (.int .i64 (pre.length : Nat)))), (11, .v (.d (.slice (p.params.map Pm.row)))), (1, .box [.d (.str p.name), .d (.slice (p.params.map Pm.row)), .d (.slice (p.body.map Stm.row))]), (12, .v (.d (.int .i64 (p.params.length : Nat))))])
    (fun pre => (grS A (pre.map pmS)).2) (fun _ _ => some (.d (.str (procT p)), A)) p.params rfl rfl rfl ?_
  intro pre suf hl ih
  have hb : pre.length ≤ 6 := by rw [hl] at hpl; simp at hpl; omega
  cases suf with
  | cons x suf =>
    have hx : x ∈ p.params := by rw [hl]; simp
    have hn := name_len (hpn x hx).1
    have e1 : decide ((pre.length : Int) < (p.params.length : Int)) = true := by rw [hl]; simp; omega
    have e3 : (p.params.map Pm.row)[pre.length]? = some [.str x.name, .int .i64 x.type] := by rw [hl]; exact map_mid
    have ih' := ih x suf rfl
    rw [List.map_append, List.map_cons, List.map_nil, List.length_append, List.length_cons, List.length_nil] at ih'
    have t1 := typeWordP x.type
    have tl := tyWord_len x.type
    have c1 := sadd (a := x.name) (b := [58, 32]) (by simp; omega)
    have c2 := sadd (a := x.name ++ [58, 32]) (b := tyWord x.type) (by simp; omega)
    have a1 := grS_append A (pre.map pmS) (pmS x) (by simp; omega)
    have hq : x.name ++ [58, 32] ++ tyWord x.type = pmS x := rfl
    rw [hq] at c2
    generalize x.name ++ [58, 32] = q1 at *
    generalize tyWord x.type = q2 at *
    generalize pmS x = q3 at *
    have w1 : IntKind.i64.wrap ((pre.length : Int) + 1) = ((pre.length + 1 : Nat) : Int) := wrap_nat (by omega)
    generalize pre.map pmS ++ [q3] = l2 at *
    generalize pre.map pmS = l1 at *
    simp (maxSteps := 1000000) only [go_sem, acondK_bool, acB_merge, Nat.reduceLT, Nat.reduceLeDiff, Nat.reduceEqDiff, Nat.reduceAdd, Nat.reduceSub, Nat.reduceMul, Nat.reduceBEq, Nat.reduceBNe, Nat.reduceBneDiff, Nat.reduceBeqDiff, Int.reduceToNat, Int.reduceLE, Int.reduceLT, Int.reduceEq, Int.reduceNe, Int.reduceNeg, Int.reduceAdd, Int.reduceSub, ↓reduceIte, reduceCtorEq, e1, e3, k_drawn_t, t1, c1, c2, a1, cells_grow, one_grow]
    refine Eq.trans (ctE_ok (by repeat (first | exact MLe.nil | apply MLe.qq | apply MLe.q | apply MLe.o | apply MLe.b | apply MLe.l)) (by kernel_rfl)) ?_
    simp (maxSteps := 1000000) only [go_sem, acondK_bool, acB_merge, Nat.reduceLT, Nat.reduceLeDiff, Nat.reduceEqDiff, Nat.reduceAdd, Nat.reduceSub, Nat.reduceMul, Nat.reduceBEq, Nat.reduceBNe, Nat.reduceBneDiff, Nat.reduceBeqDiff, Int.reduceToNat, Int.reduceLE, Int.reduceLT, Int.reduceEq, Int.reduceNe, Int.reduceNeg, Int.reduceAdd, Int.reduceSub, ↓reduceIte, reduceCtorEq, w1, ih']
  | nil =>
    rw [List.append_nil] at hl
    subst hl
    have e1 : decide ((p.params.length : Int) < (p.params.length : Int)) = false := by simp
    have hj := head_join V
    obtain ⟨q, j1⟩ := joinAt A [.tcells 64 [.nilP, .nilS, .d (.int .i64 0)]] (p.params.map pmS) [44, 32] (by simp; omega) (by omega)
    have go : (grS A (p.params.map pmS)).2.objs = A.objs := grow_objs
    have hh := head_len V
    have hbl := body_len hp V
    have l1 := lineP ⟨A.objs, A.bufs ++ q⟩ false [] 0 (headS p) (by unfold headS; simp) (by simp; omega)
    have B1 := bodyW hp V ⟨A.objs, A.bufs ++ q⟩ (lineS 0 (headS p)) (by simp; omega)
    have l2 := lineP ⟨A.objs, A.bufs ++ q⟩ true (lineS 0 (headS p) ++ ssS p.body 1) 0 [[125]] (by simp) (by rw [List.length_append, lineS_len 0 [[125]]]; simp; omega)
    have s1 := stringB ⟨A.objs, A.bufs ++ q⟩ 64 true (procT p) (by unfold procT; rw [ne_eq, List.append_eq_nil_iff]; intro h; have := congrArg List.length h.2; rw [lineS_len] at this; simp at this) [.d (.int .i64 0)] wT
    have f1 : ∀ r, afinR C 9 A ⟨(wrH ⟨A.objs, A.bufs ++ q⟩ 64 true (procT p) [.d (.int .i64 0)]).objs, A.bufs ++ (q ++ r)⟩ (some (.d (.str (procT p)))) = some (.d (.str (procT p)), A) := fun r => by
      exact afinR_back (A0 := A) (objs := _) (bufs := q ++ r) (v := .d (.str (procT p))) rfl rfl
    have hw : wtH ⟨A.objs, A.bufs ++ q⟩ false [] ((0 : Nat) : Int) = ⟨A.objs ++ [.tcells 64 [.nilP, .nilS, .d (.int .i64 0)]], A.bufs ++ q⟩ := by rfl
    rw [hw, List.nil_append] at l1
    change acl C _ [_, .full [[.str [112, 114, 111, 99, 32]], [.str p.name], [.str [40]], [.str (joinB [44, 32] (p.params.map pmS))], [.str [41, 32, 123]]]] _ = _ at l1
    change acl C _ [_, .full [[.str [125]]]] _ = _ at l2
    have hq : lineS 0 (headS p) ++ ssS p.body 1 ++ lineS 0 [[125]] = procT p := rfl
    rw [hq] at l2
    change acl C _ _ (wtH _ _ _ ((0 : Nat) : Int)) = _ at B1
    change acl C _ _ (wtH ⟨A.objs, A.bufs ++ q⟩ true (procT p) ((0 : Nat) : Int)) = _ at s1
    change acl C _ [.ptr A.objs.length 0, _] _ = _ at l1 l2 B1
    change acl C _ [.ptr A.objs.length 0] _ = _ at s1
    have z : ((0 : Nat) : Int) = 0 := rfl
    rw [z] at l1 l2 B1 s1
    generalize procT p = t3 at *
    generalize joinB [44, 32] (p.params.map pmS) = jt at *
    generalize hG : grS A (p.params.map pmS) = G at *
    have hG1 : G.1.cells = [G.1] := by rw [← hG]; exact cells_grow
    obtain ⟨g1, ⟨gos, gbs⟩⟩ := G
    simp only at go hG1 j1
    subst go
    simp (maxSteps := 1000000) only [go_sem, acondK_bool, acB_merge, Nat.reduceLT, Nat.reduceLeDiff, Nat.reduceEqDiff, Nat.reduceAdd, Nat.reduceSub, Nat.reduceMul, Nat.reduceBEq, Nat.reduceBNe, Nat.reduceBneDiff, Nat.reduceBeqDiff, Int.reduceToNat, Int.reduceLE, Int.reduceLT, Int.reduceEq, Int.reduceNe, Int.reduceNeg, Int.reduceAdd, Int.reduceSub, ↓reduceIte, reduceCtorEq, e1, k_drawn_t, j1, l1]
    refine Eq.trans (ctE_ok (by repeat (first | exact MLe.nil | apply MLe.qq | apply MLe.q | apply MLe.o | apply MLe.b | apply MLe.l)) (by kernel_rfl)) ?_
    simp (maxSteps := 1000000) only [go_sem, acondK_bool, acB_merge, Nat.reduceLT, Nat.reduceLeDiff, Nat.reduceEqDiff, Nat.reduceAdd, Nat.reduceSub, Nat.reduceMul, Nat.reduceBEq, Nat.reduceBNe, Nat.reduceBneDiff, Nat.reduceBeqDiff, Int.reduceToNat, Int.reduceLE, Int.reduceLT, Int.reduceEq, Int.reduceNe, Int.reduceNeg, Int.reduceAdd, Int.reduceSub, ↓reduceIte, reduceCtorEq, B1, l2, s1, f1]
end Go.Proofs.YtfflfaedghfmdaaDoor
set_option linter.all false
namespace Go.Proofs.YtfflfaedghfmdaaDoor
open Go.Abs
attribute [local congr] ite_congr
set_option maxRecDepth 100000
def vldB (p : Pr) : Bool := decide (valS p = 0)
def progS (l : List Pr) : Bytes := if l.all vldB = true then joinB [10] (l.map procS) else []
theorem procT_ne (p : Pr) : procT p ≠ [] := by
  unfold procT
  rw [ne_eq, List.append_eq_nil_iff]
  intro h
  have := congrArg List.length h.2
  rw [lineS_len] at this
  simp at this
theorem procS_nil (p : Pr) : (procS p == []) = !vldB p := by
  unfold procS vldB
  by_cases h : valS p = 0
  · rw [if_pos h, decT h]
    have := procT_ne p
    cases hh : procT p with
    | nil => exact absurd hh this
    | cons _ _ => rfl
  · rw [if_neg h, decF h]
    rfl
theorem procS_len {p : Pr} (hp : p.Ok) : (procS p).length ≤ 160200 := by
  unfold procS
  split
  · rename_i h
    have V := (valS_zero p).1 h
    have h1 := head_len V
    have h2 := body_len hp V
    unfold procT
    rw [List.length_append, List.length_append, lineS_len 0 [[125]]]
    simp
    omega
  · simp
theorem afin_grS {f : FuncId} (ho : C.own f = false) (A : AHeap) (l : List Bytes) (x : Dat) : afinR C f A (grS A l).2 (some (.d x)) = some (.d x, A) := by
  unfold grS agrow
  split
  · exact afinR_d ho
  · exact afinR_buf (c := C) (A0 := A) (v := .d x) ho rfl
theorem joinAt0 (A : AHeap) (l : List Bytes) (sep : Bytes) (h1 : l.length ≤ 4194303) (h2 : (joinB sep l).length ≤ 140737488355328) :
    ∃ q, acl C 25 [(grS A l).1, .d (.str sep)] (grS A l).2 = some (.d (.str (joinB sep l)), ⟨A.objs, A.bufs ++ q⟩) := by
  obtain ⟨q, hq⟩ := joinAt A [] l sep h1 h2
  rw [List.append_nil] at hq
  refine ⟨q, ?_⟩
  have : (grS A l).2 = ⟨A.objs, (grS A l).2.bufs⟩ := by
    have h := grow_objs (A := A) (e := 9) (sz := 1) (rows := l.map sRow)
    show (agrow A 9 1 (l.map sRow)).2 = _
    rw [← h]
  rw [this]
  exact hq
theorem join_small {l : List Pr} (hl : l.length ≤ 1048576) (hok : ∀ p ∈ l, p.Ok) (sep : Bytes) (hs : sep.length ≤ 10) : (joinB sep (l.map procS)).length ≤ 1000000000000 := by
  have h3 := joinB_len sep 160200 (l.map procS) (fun x hx => by
    obtain ⟨y, hy, rfl⟩ := List.mem_map.1 hx
    exact procS_len (hok y hy))
  rw [List.length_map] at h3
  have : l.length * (160200 + sep.length) ≤ 1048576 * 160210 := Nat.mul_le_mul hl (by omega)
  omega
set_option maxHeartbeats 4000000 in
theorem programP (l : List Pr) (hl0 : l.length ≤ 1048576) (hok : ∀ p ∈ l, p.Ok) (A : AHeap) : acl C 16 [.d (.slice (l.map Pr.row))] A = some (.d (.str (progS l)), A) := by
  have hj := join_small hl0 hok [10] (by simp)
  have hres : progS l = if l.all vldB = true then joinB [10] (l.map procS) else [] := rfl
  rw [hres]
  rw [k_call (c := C) (f := 16) rfl Tryd.func16 rfl (ok 16 (by kernel_rfl)) rfl Tryd.ntmps16 Tryd.results16 (by simp)]
  simp (maxSteps := 1000000) only [go_sem, acondK_bool, acB_merge, Nat.reduceLT, Nat.reduceLeDiff, Nat.reduceEqDiff, Nat.reduceAdd, Nat.reduceSub, Nat.reduceMul, Nat.reduceBEq, Nat.reduceBNe, Nat.reduceBneDiff, Nat.reduceBeqDiff, Int.reduceToNat, Int.reduceLE, Int.reduceLT, Int.reduceEq, Int.reduceNe, Int.reduceNeg, Int.reduceAdd, Int.reduceSub, ↓reduceIte, reduceCtorEq]
  refine loop_any (fun pre => [(8, .v (.d (.int .i64 (l.length : Nat)))), (7, .v (.d (.slice (l.map Pr.row)))), (9, .v (.d (.int .i64 (pre.length : Nat)))), (3, .v (grS A (pre.map procS)).1)])
    (fun pre => (grS A (pre.map procS)).2) (fun _ suf => some (.d (.str (if suf.all vldB = true then joinB [10] (l.map procS) else [])), A)) l rfl rfl rfl ?_
  intro pre suf hl ih
  have hb : pre.length ≤ l.length := by rw [hl]; simp
  cases suf with
  | nil =>
    rw [List.append_nil] at hl
    subst hl
    have e1 : decide ((l.length : Int) < (l.length : Int)) = false := by simp
    obtain ⟨q, j1⟩ := joinAt0 A (l.map procS) [10] (by simp; omega) (by omega)
    have f1 : ∀ t : Bytes, afinR C 16 A ⟨A.objs, A.bufs ++ q⟩ (some (.d (.str t))) = some (.d (.str t), A) := fun t => afinR_buf (c := C) (A0 := A) (v := .d (.str t)) rfl rfl
    rw [List.all_nil, if_pos rfl]
    generalize joinB [10] (l.map procS) = t at *
    generalize l.map procS = l1 at *
    simp (maxSteps := 1000000) only [go_sem, acondK_bool, acB_merge, Nat.reduceLT, Nat.reduceLeDiff, Nat.reduceEqDiff, Nat.reduceAdd, Nat.reduceSub, Nat.reduceMul, Nat.reduceBEq, Nat.reduceBNe, Nat.reduceBneDiff, Nat.reduceBeqDiff, Int.reduceToNat, Int.reduceLE, Int.reduceLT, Int.reduceEq, Int.reduceNe, Int.reduceNeg, Int.reduceAdd, Int.reduceSub, ↓reduceIte, reduceCtorEq, e1, j1, f1]
  | cons x suf =>
    have hx : x ∈ l := by rw [hl]; simp
    have e1 : decide ((pre.length : Int) < (l.length : Int)) = true := by rw [hl]; simp; omega
    have e3 : (l.map Pr.row)[pre.length]? = some [.str x.name, .slice (x.params.map Pm.row), .slice (x.body.map Stm.row)] := by rw [hl]; exact map_mid
    have ih' := ih x suf rfl
    rw [List.map_append, List.map_cons, List.map_nil, List.length_append, List.length_cons, List.length_nil] at ih'
    have p1 := procP x (hok x hx)
    have a1 := grS_append A (pre.map procS) (procS x) (by simp; omega)
    have n1 := procS_nil x
    have w1 : IntKind.i64.wrap ((pre.length : Int) + 1) = ((pre.length + 1 : Nat) : Int) := wrap_nat (by omega)
    have f1 := afin_grS (f := 16) rfl A (pre.map procS)
    rw [List.all_cons]
    generalize procS x = q3 at *
    generalize joinB [10] (l.map procS) = t at *
    generalize pre.map procS ++ [q3] = l2 at *
    generalize pre.map procS = l1 at *
    cases hv : vldB x with
    | false =>
      rw [hv] at n1
      simp (maxSteps := 1000000) only [go_sem, acondK_bool, acB_merge, Nat.reduceLT, Nat.reduceLeDiff, Nat.reduceEqDiff, Nat.reduceAdd, Nat.reduceSub, Nat.reduceMul, Nat.reduceBEq, Nat.reduceBNe, Nat.reduceBneDiff, Nat.reduceBeqDiff, Int.reduceToNat, Int.reduceLE, Int.reduceLT, Int.reduceEq, Int.reduceNe, Int.reduceNeg, Int.reduceAdd, Int.reduceSub, ↓reduceIte, reduceCtorEq, e1, e3, p1, n1, f1]
    | true =>
      rw [hv] at n1
      rw [Bool.true_and]
      simp (maxSteps := 1000000) only [go_sem, acondK_bool, acB_merge, Nat.reduceLT, Nat.reduceLeDiff, Nat.reduceEqDiff, Nat.reduceAdd, Nat.reduceSub, Nat.reduceMul, Nat.reduceBEq, Nat.reduceBNe, Nat.reduceBneDiff, Nat.reduceBeqDiff, Int.reduceToNat, Int.reduceLE, Int.reduceLT, Int.reduceEq, Int.reduceNe, Int.reduceNeg, Int.reduceAdd, Int.reduceSub, ↓reduceIte, reduceCtorEq, e1, e3, p1, n1, a1, cells_grow, one_grow, w1, ih']
end Go.Proofs.YtfflfaedghfmdaaDoor
