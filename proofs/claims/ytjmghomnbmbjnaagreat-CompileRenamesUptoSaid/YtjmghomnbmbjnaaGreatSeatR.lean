/- The emitter: instructions that grow in an object. -/
import Derived.Test.YtjmghomnbmbjnaaGreatSeatO
import Derived.Test.YtjmghomnbmbjnaaGreatSeatP
import Derived.Test.YtjmghomnbmbjnaaGreatGenC
set_option linter.unusedVariables false
set_option linter.unusedSimpArgs false
set_option linter.all false
set_option linter.deprecated false
set_option linter.all false
namespace Go.Proofs.YtjmghomnbmbjnaaGreat
open Go.Abs
attribute [local congr] ite_congr
set_option maxRecDepth 10000
structure In where
  op : Int
  a : Int
  b : Int
  n : Int
  s : Bytes
def In.row (x : In) : List Dat := [.int .i64 x.op, .int .i64 x.a, .int .i64 x.b, .int .i64 x.n, .str x.s]
def In.av (x : In) : AV := .agg [.d (.int .i64 x.op), .d (.int .i64 x.a), .d (.int .i64 x.b), .d (.int .i64 x.n), .d (.str x.s)]
def one (op a : Int) : In := ⟨op, a, 0, 0, []⟩
noncomputable abbrev grJ (A : AHeap) (l : List In) : AV × AHeap := agrow A 46 5 (l.map In.row)
theorem grJ_append (A : AHeap) (l : List In) (x : In) (h : l.length ≤ 4194303) : aappend Tryz.prog 46 5 (grJ A l).2 (grJ A l).1 [x.row] = some (grJ A (l ++ [x])) := by
  have := agrow_append (P := Tryz.prog) (A := A) (ty := 46) (sz := 5) (rows := l.map In.row) (src := [x.row]) room_46_5 (by rfl) (by simp; omega)
  rw [this]
  unfold grJ
  rw [List.map_append]
  rfl
theorem grJ_snoc (A : AHeap) (l : List In) (x : In) : grJ A (l ++ [x]) = (.own A.bufs.length (l.length + 1), ⟨A.objs, A.bufs ++ [⟨46, 5, l.map In.row ++ [x.row], 0⟩]⟩) := by
  unfold grJ
  rw [List.map_append, List.map_cons, List.map_nil, grow_snoc, List.length_map]
theorem grJ_fst_ne (A : AHeap) (l : List In) : (grJ A l).1 ≠ .own A.bufs.length (l.length + 1) := by
  unfold grJ agrow
  split
  · intro h; cases h
  · intro h
    simp at h
noncomputable def emH (A : AHeap) (S : List Bytes) (I : List In) : AHeap := ⟨A.objs ++ [.cells [(grJ A I).1, .d (.slice (S.map sRow))]], (grJ A I).2.bufs⟩
theorem em_obj (A : AHeap) (S : List Bytes) (I : List In) : (emH A S I).objs[A.objs.length]? = some (.cells [(grJ A I).1, .d (.slice (S.map sRow))]) := by simp [emH]
theorem alen_grJ {A B : AHeap} {l : List In} : alen B 2 (grJ A l).1 = some l.length := by rw [alen_grow]; simp
theorem em_append (A : AHeap) (S : List Bytes) (I : List In) (x : In) (h : I.length ≤ 4194303) : aappend Tryz.prog 46 5 (emH A S I) (grJ A I).1 [x.row] = some ((grJ A (I ++ [x])).1, ⟨(emH A S I).objs, (grJ A (I ++ [x])).2.bufs⟩) := by
  have g1 : ∀ os m, (⟨os, (grJ A m).2.bufs⟩ : AHeap) = (grJ ⟨os, A.bufs⟩ m).2 := fun os m => grow_heap
  have g2 : ∀ os m, (grJ A m).1 = (grJ ⟨os, A.bufs⟩ m).1 := fun os m => grow_fst rfl
  have t := grJ_append ⟨(emH A S I).objs, A.bufs⟩ I x h
  have e : grJ ⟨(emH A S I).objs, A.bufs⟩ (I ++ [x]) = ((grJ A (I ++ [x])).1, ⟨(emH A S I).objs, (grJ A (I ++ [x])).2.bufs⟩) := Prod.ext (g2 _ _).symm (g1 _ _).symm
  rw [e, ← g1, ← g2] at t
  exact t
theorem em_set (A : AHeap) (S : List Bytes) (I J : List In) : (⟨(emH A S I).objs.set A.objs.length (.cells [(grJ A J).1, .d (.slice (S.map sRow))]), (grJ A J).2.bufs⟩ : AHeap) = emH A S J := by
  simp [emH]
theorem one_grJ {A : AHeap} {l : List In} : (grJ A l).1.one = true := one_grow
theorem em_fin {f : FuncId} (ho : C.own f = false) (A : AHeap) (S : List Bytes) (I : List In) (x : In) {v : AV} (hv : v.still3 = true) : afinR C f (emH A S I) (emH A S (I ++ [x])) (some v) = some (v.clean3, emH A S (I ++ [x])) := by
  refine afinR_loud ho hv ?_
  intro hh
  have h9 := congrArg (fun l : List AObj => l[A.objs.length]?) hh
  simp [List.getElem?_take, emH] at h9
  rw [grJ_snoc] at h9
  exact grJ_fst_ne A I h9.symm
theorem emitP (A : AHeap) (S : List Bytes) (I : List In) (x : In) (h : I.length ≤ 4000000) : acl C 53 [.ptr A.objs.length 0, In.av x] (emH A S I) = some (.d (.int .i64 (I.length : Nat)), emH A S (I ++ [x])) := by
  have e1 := em_append A S I x (by omega)
  have e2 := em_fin (f := 53) rfl A S I x (v := .d (.int .i64 (I.length : Nat))) rfl
  have e3 := em_set A S I (I ++ [x])
  have e4 := em_obj A S (I ++ [x])
  obtain ⟨op, a, b, n, s⟩ := x
  show acl C _ [_, .agg [.d (.int .i64 op), .d (.int .i64 a), .d (.int .i64 b), .d (.int .i64 n), .d (.str s)]] _ = _
  change aappend _ _ _ _ _ [[.int .i64 op, .int .i64 a, .int .i64 b, .int .i64 n, .str s]] = _ at e1
  generalize (⟨op, a, b, n, s⟩ : In) = x at *
  rw [k_call (c := C) (f := 53) rfl Tryz.func53 rfl (ok 53 (by kernel_rfl)) rfl Tryz.ntmps53 Tryz.results53 (by simp)]
  simp (maxSteps := 1000000) only [go_sem, acondK_bool, acB_merge, Nat.reduceLT, Nat.reduceLeDiff, Nat.reduceEqDiff, Nat.reduceAdd, Nat.reduceSub, Nat.reduceMul, Nat.reduceBEq, Nat.reduceBNe, Nat.reduceBneDiff, Nat.reduceBeqDiff, Int.reduceToNat, Int.reduceLE, Int.reduceLT, Int.reduceEq, Int.reduceNe, Int.reduceNeg, Int.reduceAdd, Int.reduceSub, ↓reduceIte, reduceCtorEq, k_drawn_t, em_obj, e1, e3, cells_grow, one_grJ, alen_grJ]
  refine Eq.trans (ctE_ok (by repeat (first | exact MLe.nil | apply MLe.qq | apply MLe.q | apply MLe.o | apply MLe.b | apply MLe.l)) (by kernel_rfl)) ?_
  have e5 : IntKind.i64.wrap (((I.length + 1 : Nat) : Int) - 1) = ((I.length : Nat) : Int) := by
    rw [show ((I.length + 1 : Nat) : Int) - 1 = ((I.length : Nat) : Int) by omega]
    exact wrap_in (by omega) (by omega)
  simp (maxSteps := 1000000) only [go_sem, acondK_bool, acB_merge, Nat.reduceLT, Nat.reduceLeDiff, Nat.reduceEqDiff, Nat.reduceAdd, Nat.reduceSub, Nat.reduceMul, Nat.reduceBEq, Nat.reduceBNe, Nat.reduceBneDiff, Nat.reduceBeqDiff, Int.reduceToNat, Int.reduceLE, Int.reduceLT, Int.reduceEq, Int.reduceNe, Int.reduceNeg, Int.reduceAdd, Int.reduceSub, ↓reduceIte, reduceCtorEq, em_obj, e3, e4, cells_grow, one_grJ, alen_grJ]
  rw [e5]
  exact e2
theorem em_fin0 {f : FuncId} (ho : C.own f = false) (A : AHeap) (S : List Bytes) (I : List In) (x : In) : afinR C f (emH A S I) (emH A S (I ++ [x])) (some (.tuple [])) = some (.tuple [], emH A S (I ++ [x])) := em_fin ho A S I x (v := .tuple []) rfl
theorem slotP (A : AHeap) (S : List Bytes) (I : List In) (op a : Int) (h : I.length ≤ 4000000) : acl C 69 [.ptr A.objs.length 0, .d (.int .i64 op), .d (.int .i64 a)] (emH A S I) = some (.tuple [], emH A S (I ++ [one op a])) := by
  have e1 := emitP A S I (one op a) h
  have e2 := em_fin0 (f := 69) rfl A S I (one op a)
  change acl C _ [_, .agg [.d (.int .i64 op), .d (.int .i64 a), .d (.int .i64 0), .d (.int .i64 0), .d (.str [])]] _ = _ at e1
  generalize one op a = x at *
  rw [k_call (c := C) (f := 69) rfl Tryz.func69 rfl (ok 69 (by kernel_rfl)) rfl Tryz.ntmps69 Tryz.results69 (by simp)]
  simp (maxSteps := 1000000) only [go_sem, acondK_bool, acB_merge, Nat.reduceLT, Nat.reduceLeDiff, Nat.reduceEqDiff, Nat.reduceAdd, Nat.reduceSub, Nat.reduceMul, Nat.reduceBEq, Nat.reduceBNe, Nat.reduceBneDiff, Nat.reduceBeqDiff, Int.reduceToNat, Int.reduceLE, Int.reduceLT, Int.reduceEq, Int.reduceNe, Int.reduceNeg, Int.reduceAdd, Int.reduceSub, ↓reduceIte, reduceCtorEq, e1, e2]
theorem opP (A : AHeap) (S : List Bytes) (I : List In) (op : Int) (h : I.length ≤ 4000000) : acl C 30 [.ptr A.objs.length 0, .d (.int .i64 op)] (emH A S I) = some (.tuple [], emH A S (I ++ [one op 0])) := by
  have e1 := emitP A S I (one op 0) h
  have e2 := em_fin0 (f := 30) rfl A S I (one op 0)
  change acl C _ [_, .agg [.d (.int .i64 op), .d (.int .i64 0), .d (.int .i64 0), .d (.int .i64 0), .d (.str [])]] _ = _ at e1
  generalize one op 0 = x at *
  rw [k_call (c := C) (f := 30) rfl Tryz.func30 rfl (ok 30 (by kernel_rfl)) rfl Tryz.ntmps30 Tryz.results30 (by simp)]
  simp (maxSteps := 1000000) only [go_sem, acondK_bool, acB_merge, Nat.reduceLT, Nat.reduceLeDiff, Nat.reduceEqDiff, Nat.reduceAdd, Nat.reduceSub, Nat.reduceMul, Nat.reduceBEq, Nat.reduceBNe, Nat.reduceBneDiff, Nat.reduceBeqDiff, Int.reduceToNat, Int.reduceLE, Int.reduceLT, Int.reduceEq, Int.reduceNe, Int.reduceNeg, Int.reduceAdd, Int.reduceSub, ↓reduceIte, reduceCtorEq, e1, e2]
theorem em_same {f : FuncId} (ho : C.own f = false) (A : AHeap) (S : List Bytes) (I : List In) {v : AV} (hv : v.still3 = true) : afinR C f (emH A S I) (emH A S I) (some v) = some (v.clean3, emH A S I) := afinR_len ho hv rfl rfl
theorem hereP (A : AHeap) (S : List Bytes) (I : List In) : acl C 114 [.ptr A.objs.length 0] (emH A S I) = some (.d (.int .i64 (I.length : Nat)), emH A S I) := by
  have e2 := em_same (f := 114) rfl A S I (v := .d (.int .i64 (I.length : Nat))) rfl
  rw [k_call (c := C) (f := 114) rfl Tryz.func114 rfl (ok 114 (by kernel_rfl)) rfl Tryz.ntmps114 Tryz.results114 (by simp)]
  simp (maxSteps := 1000000) only [go_sem, acondK_bool, acB_merge, Nat.reduceLT, Nat.reduceLeDiff, Nat.reduceEqDiff, Nat.reduceAdd, Nat.reduceSub, Nat.reduceMul, Nat.reduceBEq, Nat.reduceBNe, Nat.reduceBneDiff, Nat.reduceBeqDiff, Int.reduceToNat, Int.reduceLE, Int.reduceLT, Int.reduceEq, Int.reduceNe, Int.reduceNeg, Int.reduceAdd, Int.reduceSub, ↓reduceIte, reduceCtorEq, em_obj, alen_grJ, e2]
def slotN (S : List Bytes) (w : Bytes) : Int := idxF (fun s => w == s) S 0
theorem indexP (A : AHeap) (S : List Bytes) (hS : S.length ≤ 4194303) (I : List In) (w : Bytes) : acl C 68 [.ptr A.objs.length 0, .d (.str w)] (emH A S I) = some (.d (.int .i64 (if (w == []) = true then -1 else slotN S w)), emH A S I) := by
  have e1 := indexS S (by omega) w (emH A S I)
  change acl C _ _ _ = some (AV.d (Dat.int .i64 (slotN S w)), _) at e1
  have e2 := fun n => em_same (f := 68) rfl A S I (v := .d (.int .i64 n)) rfl
  rw [k_call (c := C) (f := 68) rfl Tryz.func68 rfl (ok 68 (by kernel_rfl)) rfl Tryz.ntmps68 Tryz.results68 (by simp)]
  cases hw : (w == []) with
  | true => simp (maxSteps := 1000000) only [go_sem, acondK_bool, acB_merge, Nat.reduceLT, Nat.reduceLeDiff, Nat.reduceEqDiff, Nat.reduceAdd, Nat.reduceSub, Nat.reduceMul, Nat.reduceBEq, Nat.reduceBNe, Nat.reduceBneDiff, Nat.reduceBeqDiff, Int.reduceToNat, Int.reduceLE, Int.reduceLT, Int.reduceEq, Int.reduceNe, Int.reduceNeg, Int.reduceAdd, Int.reduceSub, ↓reduceIte, reduceCtorEq, hw, em_obj, e1, e2]
  | false => simp (maxSteps := 1000000) only [go_sem, acondK_bool, acB_merge, Nat.reduceLT, Nat.reduceLeDiff, Nat.reduceEqDiff, Nat.reduceAdd, Nat.reduceSub, Nat.reduceMul, Nat.reduceBEq, Nat.reduceBNe, Nat.reduceBneDiff, Nat.reduceBeqDiff, Int.reduceToNat, Int.reduceLE, Int.reduceLT, Int.reduceEq, Int.reduceNe, Int.reduceNeg, Int.reduceAdd, Int.reduceSub, ↓reduceIte, reduceCtorEq, hw, em_obj, e1, e2]
end Go.Proofs.YtjmghomnbmbjnaaGreat
set_option linter.all false
namespace Go.Proofs.YtjmghomnbmbjnaaGreat
open Go.Abs
attribute [local congr] ite_congr
set_option maxRecDepth 10000
theorem grJ_fst (A : AHeap) (l : List In) : (grJ A l).1 = if l = [] then .nilS else .own A.bufs.length l.length := by
  unfold grJ agrow
  cases l with
  | nil => rfl
  | cons x l => simp
theorem em_finL {f : FuncId} (ho : C.own f = false) (A : AHeap) (S : List Bytes) (I l : List In) {v : AV} (hv : v.still3 = true) : afinR C f (emH A S I) (emH A S (I ++ l)) (some v) = some (v.clean3, emH A S (I ++ l)) := by
  by_cases h : l = []
  · subst h
    rw [List.append_nil]
    exact em_same ho A S I hv
  · refine afinR_loud ho hv ?_
    intro hh
    have h9 := congrArg (fun l : List AObj => l[A.objs.length]?) hh
    simp [List.getElem?_take, emH] at h9
    rw [grJ_fst, grJ_fst, if_neg (by simp [h])] at h9
    split at h9
    · cases h9
    · injection h9 with _ h10
      have : l.length ≠ 0 := by simpa using h
      rw [List.length_append] at h10
      omega
def idxM (S : List Bytes) (w : Bytes) : Int := if (w == []) = true then -1 else slotN S w
mutual
def codeM (S : List Bytes) : E → List In
  | .mk op n s args => if decide (op = 1) = true then [⟨1, 0, 0, n, []⟩] else if decide (op = 2) = true then [⟨2, 0, 0, 0, s⟩] else if decide (op = 3) = true then [one 3 (if idxM S s > 0 then idxM S s else 0)] else codeMs S args ++ [one 5 op]
def codeMs (S : List Bytes) : List E → List In
  | [] => []
  | x :: l => codeM S x ++ codeMs S l
end
mutual
def okM (S : List Bytes) : E → Bool
  | .mk op n s args => if decide (op = 1) = true then true else if decide (op = 2) = true then true else if decide (op = 3) = true then decide (0 ≤ idxM S s) else okMs S args
def okMs (S : List Bytes) : List E → Bool
  | [] => true
  | x :: l => okM S x && okMs S l
end
theorem codeMs_append (S : List Bytes) : ∀ l m : List E, codeMs S (l ++ m) = codeMs S l ++ codeMs S m
  | [], m => rfl
  | x :: l, m => by simp only [List.cons_append, codeMs, codeMs_append S l m, List.append_assoc]
theorem okMs_append (S : List Bytes) : ∀ l m : List E, okMs S (l ++ m) = (okMs S l && okMs S m)
  | [], m => by simp [okMs]
  | x :: l, m => by simp only [List.cons_append, okMs, okMs_append S l m, Bool.and_assoc]
mutual
theorem codeM_len (S : List Bytes) : ∀ (e : E) (r : Bool), (codeM S e).length ≤ (visE e r).length
  | .mk op n s args, r => by
    have h := codeMs_len S args
    rw [codeM, visE]
    split
    · simp
    · split
      · simp
      · split
        · simp
        · simp; omega
theorem codeMs_len (S : List Bytes) : ∀ l : List E, (codeMs S l).length ≤ (visEs l).length
  | [] => Nat.le_refl _
  | x :: l => by
    have h1 := codeM_len S x false
    have h2 := codeMs_len S l
    rw [codeMs, visEs]
    simp only [List.length_append]
    omega
end
set_option maxHeartbeats 4000000 in
theorem exprP (A : AHeap) (S : List Bytes) (hS : S.length ≤ 4194303) : ∀ e, E.Ok e → ∀ (I : List In), I.length + (visE e false).length ≤ 4000000 → acl C 43 [.ptr A.objs.length 0, E.av e] (emH A S I) = some (.d (.bool (okM S e)), emH A S (I ++ codeM S e)) := by
  intro e
  induction e using E.ind with
  | h op n s args ih =>
    intro hok I hI
    have hlen := hok.fit
    rw [visE] at hI
    simp only [List.length_cons] at hI
    have fin := fun l b => em_finL (f := 43) rfl A S I l (v := .d (.bool b)) rfl
    rw [k_call (c := C) (f := 43) rfl Tryz.func43 rfl (ok 43 (by kernel_rfl)) rfl Tryz.ntmps43 Tryz.results43 (by simp)]
    rw [codeM, okM]
    cases h1 : decide (op = 1) with
    | true =>
      have e1 := emitP A S I ⟨1, 0, 0, n, []⟩ (by omega)
      have f1 := fin [⟨1, 0, 0, n, []⟩] true
      change acl C _ [_, .agg [.d (.int .i64 1), .d (.int .i64 0), .d (.int .i64 0), .d (.int .i64 n), .d (.str [])]] _ = _ at e1
      generalize (⟨1, 0, 0, n, []⟩ : In) = x at *
      simp (maxSteps := 1000000) only [go_sem, acondK_bool, acB_merge, Nat.reduceLT, Nat.reduceLeDiff, Nat.reduceEqDiff, Nat.reduceAdd, Nat.reduceSub, Nat.reduceMul, Nat.reduceBEq, Nat.reduceBNe, Nat.reduceBneDiff, Nat.reduceBeqDiff, Int.reduceToNat, Int.reduceLE, Int.reduceLT, Int.reduceEq, Int.reduceNe, Int.reduceNeg, Int.reduceAdd, Int.reduceSub, ↓reduceIte, reduceCtorEq, h1, k_drawn_t, e1]
      refine Eq.trans (ctE_ok (by repeat (first | exact MLe.nil | apply MLe.qq | apply MLe.q | apply MLe.o | apply MLe.b | apply MLe.l)) (by kernel_rfl)) ?_
      simp (maxSteps := 1000000) only [go_sem, acondK_bool, acB_merge, Nat.reduceLT, Nat.reduceLeDiff, Nat.reduceEqDiff, Nat.reduceAdd, Nat.reduceSub, Nat.reduceMul, Nat.reduceBEq, Nat.reduceBNe, Nat.reduceBneDiff, Nat.reduceBeqDiff, Int.reduceToNat, Int.reduceLE, Int.reduceLT, Int.reduceEq, Int.reduceNe, Int.reduceNeg, Int.reduceAdd, Int.reduceSub, ↓reduceIte, reduceCtorEq, f1]
    | false =>
    cases h2 : decide (op = 2) with
    | true =>
      have e1 := emitP A S I ⟨2, 0, 0, 0, s⟩ (by omega)
      have f1 := fin [⟨2, 0, 0, 0, s⟩] true
      change acl C _ [_, .agg [.d (.int .i64 2), .d (.int .i64 0), .d (.int .i64 0), .d (.int .i64 0), .d (.str s)]] _ = _ at e1
      generalize (⟨2, 0, 0, 0, s⟩ : In) = x at *
      simp (maxSteps := 1000000) only [go_sem, acondK_bool, acB_merge, Nat.reduceLT, Nat.reduceLeDiff, Nat.reduceEqDiff, Nat.reduceAdd, Nat.reduceSub, Nat.reduceMul, Nat.reduceBEq, Nat.reduceBNe, Nat.reduceBneDiff, Nat.reduceBeqDiff, Int.reduceToNat, Int.reduceLE, Int.reduceLT, Int.reduceEq, Int.reduceNe, Int.reduceNeg, Int.reduceAdd, Int.reduceSub, ↓reduceIte, reduceCtorEq, h1, h2, k_drawn_t, e1]
      refine Eq.trans (ctE_ok (by repeat (first | exact MLe.nil | apply MLe.qq | apply MLe.q | apply MLe.o | apply MLe.b | apply MLe.l)) (by kernel_rfl)) ?_
      simp (maxSteps := 1000000) only [go_sem, acondK_bool, acB_merge, Nat.reduceLT, Nat.reduceLeDiff, Nat.reduceEqDiff, Nat.reduceAdd, Nat.reduceSub, Nat.reduceMul, Nat.reduceBEq, Nat.reduceBNe, Nat.reduceBneDiff, Nat.reduceBeqDiff, Int.reduceToNat, Int.reduceLE, Int.reduceLT, Int.reduceEq, Int.reduceNe, Int.reduceNeg, Int.reduceAdd, Int.reduceSub, ↓reduceIte, reduceCtorEq, f1]
    | false =>
    cases h3 : decide (op = 3) with
    | true =>
      have i1 := indexP A S hS I s
      change acl C _ _ _ = some (AV.d (Dat.int .i64 (idxM S s)), _) at i1
      have e1 := slotP A S I 3 (if idxM S s > 0 then idxM S s else 0) (by omega)
      have f1 := fun b => fin [one 3 (if idxM S s > 0 then idxM S s else 0)] b
      generalize one 3 (if idxM S s > 0 then idxM S s else 0) = x at *
      generalize idxM S s = k at *
      simp (maxSteps := 1000000) only [go_sem, acondK_bool, acB_merge, Nat.reduceLT, Nat.reduceLeDiff, Nat.reduceEqDiff, Nat.reduceAdd, Nat.reduceSub, Nat.reduceMul, Nat.reduceBEq, Nat.reduceBNe, Nat.reduceBneDiff, Nat.reduceBeqDiff, Int.reduceToNat, Int.reduceLE, Int.reduceLT, Int.reduceEq, Int.reduceNe, Int.reduceNeg, Int.reduceAdd, Int.reduceSub, ↓reduceIte, reduceCtorEq, h1, h2, h3, i1, e1, f1]
    | false =>
      simp only [Bool.false_eq_true, if_false]
      simp (maxSteps := 1000000) only [go_sem, acondK_bool, acB_merge, Nat.reduceLT, Nat.reduceLeDiff, Nat.reduceEqDiff, Nat.reduceAdd, Nat.reduceSub, Nat.reduceMul, Nat.reduceBEq, Nat.reduceBNe, Nat.reduceBneDiff, Nat.reduceBeqDiff, Int.reduceToNat, Int.reduceLE, Int.reduceLT, Int.reduceEq, Int.reduceNe, Int.reduceNeg, Int.reduceAdd, Int.reduceSub, ↓reduceIte, reduceCtorEq, h1, h2, h3]
      refine loop_any (fun pre => [(6, .v (.d (.bool (okMs S pre)))), (46, .v (.d (.int .i64 (pre.length : Nat)))), (0, .v (.ptr A.objs.length 0)), (44, .v (.d (.slice (args.map E.row)))), (3, .box [.d (.int .i64 op), .d (.int .i64 n), .d (.str s), .d (.slice (args.map E.row))]), (45, .v (.d (.int .i64 (args.length : Nat))))])
        (fun pre => emH A S (I ++ codeMs S pre)) (fun _ _ => some (.d (.bool (okMs S args)), emH A S (I ++ (codeMs S args ++ [one 5 op])))) args rfl (by rw [codeMs, List.append_nil]) rfl ?_
      intro pre suf hl ih2
      have hb : pre.length < 9223372036854775807 := by rw [hl] at hlen; simp at hlen; omega
      cases suf with
      | nil =>
        rw [List.append_nil] at hl
        subst hl
        have hcl := codeMs_len S args
        have e4 : decide ((args.length : Int) < (args.length : Int)) = false := by simp
        have f1 := fin (codeMs S args ++ [one 5 op]) (okMs S args)
        have e1 := slotP A S (I ++ codeMs S args) 5 op (by simp; omega)
        rw [List.append_assoc] at e1
        generalize I ++ (codeMs S args ++ [one 5 op]) = J at *
        generalize I ++ codeMs S args = J0 at *
        simp (maxSteps := 1000000) only [go_sem, acondK_bool, acB_merge, Nat.reduceLT, Nat.reduceLeDiff, Nat.reduceEqDiff, Nat.reduceAdd, Nat.reduceSub, Nat.reduceMul, Nat.reduceBEq, Nat.reduceBNe, Nat.reduceBneDiff, Nat.reduceBeqDiff, Int.reduceToNat, Int.reduceLE, Int.reduceLT, Int.reduceEq, Int.reduceNe, Int.reduceNeg, Int.reduceAdd, Int.reduceSub, ↓reduceIte, reduceCtorEq, e4, k_drawn_t, e1]
        refine Eq.trans (ctE_ok (by repeat (first | exact MLe.nil | apply MLe.qq | apply MLe.q | apply MLe.o | apply MLe.b | apply MLe.l)) (by kernel_rfl)) ?_
        simp (maxSteps := 1000000) only [go_sem, acondK_bool, acB_merge, Nat.reduceLT, Nat.reduceLeDiff, Nat.reduceEqDiff, Nat.reduceAdd, Nat.reduceSub, Nat.reduceMul, Nat.reduceBEq, Nat.reduceBNe, Nat.reduceBneDiff, Nat.reduceBeqDiff, Int.reduceToNat, Int.reduceLE, Int.reduceLT, Int.reduceEq, Int.reduceNe, Int.reduceNeg, Int.reduceAdd, Int.reduceSub, ↓reduceIte, reduceCtorEq, f1]
      | cons x suf =>
        have hx : x ∈ args := by rw [hl]; simp
        have hn : (visEs pre).length + ((visE x false).length + (visEs suf).length) = (visEs args).length := by rw [hl, visEs_append, visEs]; simp
        have hcl := codeMs_len S pre
        have e1 := ih x hx (hok.arg x hx) (I ++ codeMs S pre) (by simp; omega)
        have e2 := ih2 x suf rfl
        rw [List.length_append, List.length_cons, List.length_nil, codeMs_append, okMs_append] at e2
        have q1 : codeMs S [x] = codeM S x := by rw [codeMs, codeMs, List.append_nil]
        have q2 : okMs S [x] = okM S x := by rw [okMs, okMs, Bool.and_true]
        rw [q1, q2, ← List.append_assoc] at e2
        have e3 : (args.map E.row)[pre.length]? = some (E.row x) := by rw [hl]; exact map_mid
        have e4 : decide ((pre.length : Int) < (args.length : Int)) = true := by rw [hl]; simp; omega
        rw [E.row_eq] at e3
        generalize I ++ codeMs S pre = J at *
        generalize J ++ codeM S x = J2 at *
        cases h5 : okM S x with
        | true =>
          rw [h5] at e1 e2
          rw [Bool.and_true] at e2
          simp (maxSteps := 1000000) only [go_sem, acondK_bool, acB_merge, Nat.reduceLT, Nat.reduceLeDiff, Nat.reduceEqDiff, Nat.reduceAdd, Nat.reduceSub, Nat.reduceMul, Nat.reduceBEq, Nat.reduceBNe, Nat.reduceBneDiff, Nat.reduceBeqDiff, Int.reduceToNat, Int.reduceLE, Int.reduceLT, Int.reduceEq, Int.reduceNe, Int.reduceNeg, Int.reduceAdd, Int.reduceSub, ↓reduceIte, reduceCtorEq, e3, e4, e1, e2, wrap_nat hb]
        | false =>
          rw [h5] at e1 e2
          rw [Bool.and_false] at e2
          simp (maxSteps := 1000000) only [go_sem, acondK_bool, acB_merge, Nat.reduceLT, Nat.reduceLeDiff, Nat.reduceEqDiff, Nat.reduceAdd, Nat.reduceSub, Nat.reduceMul, Nat.reduceBEq, Nat.reduceBNe, Nat.reduceBneDiff, Nat.reduceBeqDiff, Int.reduceToNat, Int.reduceLE, Int.reduceLT, Int.reduceEq, Int.reduceNe, Int.reduceNeg, Int.reduceAdd, Int.reduceSub, ↓reduceIte, reduceCtorEq, e3, e4, e1, e2, wrap_nat hb]
end Go.Proofs.YtjmghomnbmbjnaaGreat
set_option linter.all false
namespace Go.Proofs.YtjmghomnbmbjnaaGreat
open Go.Abs
attribute [local congr] ite_congr
set_option maxRecDepth 10000
mutual
def bndS (S : List Bytes) : E → Bool
  | .mk op n s args => if (decide (op = 3) && decide (slotN S s < 0)) = true then false else bndSs S args
def bndSs (S : List Bytes) : List E → Bool
  | [] => true
  | x :: l => bndS S x && bndSs S l
end
end Go.Proofs.YtjmghomnbmbjnaaGreat
set_option linter.all false
namespace Go.Proofs.YtjmghomnbmbjnaaGreat
open Go.Abs
attribute [local congr] ite_congr
set_option maxRecDepth 10000
end Go.Proofs.YtjmghomnbmbjnaaGreat
set_option linter.all false
namespace Go.Proofs.YtjmghomnbmbjnaaGreat
open Go.Abs
attribute [local congr] ite_congr
set_option maxRecDepth 10000
mutual
def codeR (S : List Bytes) : E → List In
  | .mk op n s args => if decide (op = 1) = true then [⟨1, 0, 0, n, []⟩] else if decide (op = 2) = true then [⟨2, 0, 0, 0, s⟩] else if decide (op = 3) = true then [one 3 (slotN S s)] else codeRs S args ++ [one 5 op]
def codeRs (S : List Bytes) : List E → List In
  | [] => []
  | x :: l => codeR S x ++ codeRs S l
end
mutual
theorem codeR_len (S : List Bytes) : ∀ (e : E) (r : Bool), (codeR S e).length ≤ (visE e r).length
  | .mk op n s args, r => by
    have h := codeRs_len S args
    rw [codeR, visE]
    split
    · simp
    · split
      · simp
      · split
        · simp
        · simp; omega
theorem codeRs_len (S : List Bytes) : ∀ l : List E, (codeRs S l).length ≤ (visEs l).length
  | [] => Nat.le_refl _
  | x :: l => by
    have h1 := codeR_len S x false
    have h2 := codeRs_len S l
    rw [codeRs, visEs]
    simp only [List.length_append]
    omega
end
end Go.Proofs.YtjmghomnbmbjnaaGreat
set_option linter.all false
namespace Go.Proofs.YtjmghomnbmbjnaaGreat
open Go.Abs
attribute [local congr] ite_congr
set_option maxRecDepth 10000
theorem node_name {n : Int} {s : Bytes} {len : Nat} {d : Int} (h : nodeS 3 n s len d = 0) : (s == []) = false := by
  unfold nodeS at h
  split at h
  · cases h
  · split at h
    · cases h
    · rename_i h7
      have hn : isName s = true := by simpa using h7
      cases s with
      | nil => exact absurd hn (by decide)
      | cons _ _ => rfl
theorem chkE_parts {op n : Int} {s : Bytes} {args : List E} {d : Int} (h : chkE (.mk op n s args) d = 0) : nodeS op n s args.length d = 0 ∧ chkL args (IntKind.i64.wrap (d + 1)) = 0 := by
  rw [chkE] at h
  by_cases hn : nodeS op n s args.length d = 0
  · rw [if_pos hn] at h; exact ⟨hn, h⟩
  · rw [if_neg hn] at h; exact absurd h hn
theorem chkL_parts {x : E} {l : List E} {d : Int} (h : chkL (x :: l) d = 0) : chkE x d = 0 ∧ chkL l d = 0 := by
  rw [chkL] at h
  by_cases hx : chkE x d = 0
  · rw [if_pos hx] at h; exact ⟨hx, h⟩
  · rw [if_neg hx] at h; exact absurd h hx
theorem leaf_args {op n : Int} {s : Bytes} {args : List E} {d : Int} (h : nodeS op n s args.length d = 0) (ho : op = 1 ∨ op = 2 ∨ op = 3) : args = [] := by
  have hl : (args.length : Int) = ar op := by
    unfold nodeS at h
    split at h
    · cases h
    · split at h
      · cases h
      · split at h
        · cases h
        · rename_i h9
          simp only [Bool.or_eq_true, Bool.not_eq_true', not_or, Bool.not_eq_false] at h9
          simpa using h9.2
  have h0 : ar op = 0 := by rcases ho with ho | ho | ho <;> subst ho <;> decide
  rw [h0] at hl
  cases args with
  | nil => rfl
  | cons _ _ => simp at hl; omega
mutual
theorem ok_bnd (S : List Bytes) : ∀ (e : E) (d : Int), chkE e d = 0 → okM S e = bndS S e ∧ (okM S e = true → codeM S e = codeR S e)
  | .mk op n s args, d, h => by
    obtain ⟨h1, h2⟩ := chkE_parts h
    rw [okM, bndS, codeM, codeR]
    by_cases o1 : op = 1
    · have ha := leaf_args h1 (.inl o1)
      subst ha
      subst o1
      exact ⟨rfl, fun _ => rfl⟩
    · by_cases o2 : op = 2
      · have ha := leaf_args h1 (.inr (.inl o2))
        subst ha
        subst o2
        exact ⟨rfl, fun _ => rfl⟩
      · by_cases o3 : op = 3
        · have ha := leaf_args h1 (.inr (.inr o3))
          subst ha
          subst o3
          have hs := node_name h1
          have hi : idxM S s = slotN S s := by unfold idxM; rw [hs, if_neg (by decide)]
          rw [hi]
          have t1 : decide ((3 : Int) = 1) = false := by decide
          have t2 : decide ((3 : Int) = 2) = false := by decide
          have t3 : decide ((3 : Int) = 3) = true := by decide
          simp only [t1, t2, t3, Bool.false_eq_true, if_false, if_true, Bool.true_and, bndSs]
          by_cases hk : slotN S s < 0
          · have k0 : decide (slotN S s < 0) = true := by simpa using hk
            have k1 : decide (0 ≤ slotN S s) = false := by simp; omega
            rw [k0, k1]
            exact ⟨rfl, fun h => by cases h⟩
          · have k0 : decide (slotN S s < 0) = false := by simpa using hk
            have k1 : decide (0 ≤ slotN S s) = true := by simp; omega
            rw [k0, k1]
            have : (if slotN S s > 0 then slotN S s else 0) = slotN S s := by split <;> omega
            rw [this]
            exact ⟨rfl, fun _ => rfl⟩
        · have d1 : decide (op = 1) = false := by simpa using o1
          have d2 : decide (op = 2) = false := by simpa using o2
          have d3 : decide (op = 3) = false := by simpa using o3
          obtain ⟨g1, g2⟩ := ok_bnds S args _ h2
          simp only [d1, d2, d3, Bool.false_eq_true, if_false, Bool.false_and]
          exact ⟨g1, fun hb => by rw [g2 hb]⟩
theorem ok_bnds (S : List Bytes) : ∀ (l : List E) (d : Int), chkL l d = 0 → okMs S l = bndSs S l ∧ (okMs S l = true → codeMs S l = codeRs S l)
  | [], d, h => ⟨rfl, fun _ => rfl⟩
  | x :: l, d, h => by
    obtain ⟨c1, c2⟩ := chkL_parts h
    obtain ⟨g1, g2⟩ := ok_bnd S x d c1
    obtain ⟨g3, g4⟩ := ok_bnds S l d c2
    rw [okMs, bndSs, codeMs, codeRs, g1, g3]
    refine ⟨rfl, fun hb => ?_⟩
    rw [Bool.and_eq_true] at hb
    rw [g2 (by rw [g1]; exact hb.1), g4 (by rw [g3]; exact hb.2)]
end
end Go.Proofs.YtjmghomnbmbjnaaGreat
set_option linter.all false
namespace Go.Proofs.YtjmghomnbmbjnaaGreat
open Go.Abs
attribute [local congr] ite_congr
set_option maxRecDepth 10000
theorem sameR (l : List In) (hl : l.length ≤ 4194303) (A : AHeap) : acl C 21 [.d (.slice (l.map In.row)), .d (.slice (l.map In.row))] A = some (.d (.bool true), A) := by
  have e5 : decide (((l.length : Nat) : Int) = ((l.length : Nat) : Int)) = true := by simp
  rw [k_call (c := C) (f := 21) rfl Tryz.func21 rfl (ok 21 (by kernel_rfl)) rfl Tryz.ntmps21 Tryz.results21 (by simp)]
  simp (maxSteps := 1000000) only [go_sem, acondK_bool, acB_merge, Nat.reduceLT, Nat.reduceLeDiff, Nat.reduceEqDiff, Nat.reduceAdd, Nat.reduceSub, Nat.reduceMul, Nat.reduceBEq, Nat.reduceBNe, Nat.reduceBneDiff, Nat.reduceBeqDiff, Int.reduceToNat, Int.reduceLE, Int.reduceLT, Int.reduceEq, Int.reduceNe, Int.reduceNeg, Int.reduceAdd, Int.reduceSub, ↓reduceIte, reduceCtorEq, e5]
  refine loop_any (fun pre => [(0, .v (.d (.slice (l.map In.row)))), (1, .v (.d (.slice (l.map In.row)))), (5, .v (.d (.int .i64 (pre.length : Nat))))]) (fun _ => A) (fun _ suf => some (.d (.bool true), A)) l rfl rfl rfl ?_
  intro pre suf h ih
  have hb : pre.length < 9223372036854775807 := by rw [h] at hl; simp at hl; omega
  cases suf with
  | nil =>
    rw [List.append_nil] at h
    subst h
    have e4 : decide ((l.length : Int) < (l.length : Int)) = false := by simp
    simp (maxSteps := 1000000) only [go_sem, acondK_bool, acB_merge, Nat.reduceLT, Nat.reduceLeDiff, Nat.reduceEqDiff, Nat.reduceAdd, Nat.reduceSub, Nat.reduceMul, Nat.reduceBEq, Nat.reduceBNe, Nat.reduceBneDiff, Nat.reduceBeqDiff, Int.reduceToNat, Int.reduceLE, Int.reduceLT, Int.reduceEq, Int.reduceNe, Int.reduceNeg, Int.reduceAdd, Int.reduceSub, ↓reduceIte, reduceCtorEq, e4]
  | cons x suf =>
    have e2 := ih x suf rfl
    rw [List.length_append, List.length_cons, List.length_nil] at e2
    have e3 : (l.map In.row)[pre.length]? = some [.int .i64 x.op, .int .i64 x.a, .int .i64 x.b, .int .i64 x.n, .str x.s] := by rw [h]; exact map_mid
    have e4 : decide ((pre.length : Int) < (l.length : Int)) = true := by rw [h]; simp; omega
    have e6 : (x.s == x.s) = true := by simp
    simp (maxSteps := 1000000) only [go_sem, acondK_bool, acB_merge, Nat.reduceLT, Nat.reduceLeDiff, Nat.reduceEqDiff, Nat.reduceAdd, Nat.reduceSub, Nat.reduceMul, Nat.reduceBEq, Nat.reduceBNe, Nat.reduceBneDiff, Nat.reduceBeqDiff, Int.reduceToNat, Int.reduceLE, Int.reduceLT, Int.reduceEq, Int.reduceNe, Int.reduceNeg, Int.reduceAdd, Int.reduceSub, ↓reduceIte, reduceCtorEq, k_drawn_q, e3, e4, e2, e6, decide_true, wrap_nat hb]
end Go.Proofs.YtjmghomnbmbjnaaGreat
