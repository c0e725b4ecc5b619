/- The emitter: jumps; the code of statements as a list. -/
import Derived.Test.YtjmghomnbmbjnaaGreatSeatR
import Derived.Test.YtjmghomnbmbjnaaGreatSeatF
set_option linter.unusedVariables false
set_option linter.unusedSimpArgs false
set_option linter.all false
set_option linter.deprecated false
set_option linter.all false
namespace Go.Proofs.YtjmghomnbmbjnaaGreat
open Go.Abs
attribute [local congr] ite_congr
set_option maxRecDepth 10000
def brM (B L : Nat → List In) (e : Bool) (j : Nat) : List In :=
  if e = true then one 7 ((j + 1 + (B (j + 1)).length : Nat) : Int) :: B (j + 1)
  else one 7 ((j + 2 + (B (j + 1)).length : Nat) : Int) :: (B (j + 1) ++ one 6 ((j + 2 + (B (j + 1)).length + (L (j + 2 + (B (j + 1)).length)).length : Nat) : Int) :: L (j + 2 + (B (j + 1)).length))
def lpHead (i max : Int) (cb : List In) : List In := one 4 i :: (cb ++ [one 4 (i + 1), ⟨12, i, i + 1, max, []⟩])
def lpTest (i : Int) : List In := [one 3 i, one 3 (i + 1), one 5 12]
def lpNext (i t : Int) : List In := [one 3 i, ⟨1, 0, 0, 1, []⟩, one 5 4, one 4 i, one 6 t]
def lpM (B : Nat → List In) (cb : List In) (i max : Int) (j : Nat) : List In :=
  lpHead i max cb ++ (lpTest i ++ (one 7 ((j + cb.length + 13 + (B (j + cb.length + 8)).length : Nat) : Int) :: one 14 0 :: (B (j + cb.length + 8) ++ lpNext i ((j + cb.length + 3 : Nat) : Int))))
mutual
def cdS (S : List Bytes) : Stm → Nat → List In
  | .mk op name max a b body els => fun k =>
    one 14 0 :: (if decide (op = 8) = true then [one 11 max] else
      codeM S a ++ (if decide (op = 1) = true then [one 4 (idxM S name)] else if decide (op = 2) = true then [one 4 (idxM S name)]
        else if decide (op = 3) = true then codeM S b ++ [one 8 0] else if decide (op = 4) = true then [one 9 0] else if decide (op = 7) = true then [one 10 0]
        else if decide (op = 5) = true then brM (fun j => cdL S body j) (fun j => cdL S els j) (decide ((els.length : Int) = 0)) (k + 1 + (codeM S a).length)
        else if decide (op = 6) = true then lpM (fun j => cdL S body j) (codeM S b) (idxM S name) max (k + 1 + (codeM S a).length) else []))
def cdL (S : List Bytes) : List Stm → Nat → List In
  | [] => fun _ => []
  | x :: l => fun k => cdS S x k ++ cdL S l (k + (cdS S x k).length)
end
theorem brM_len (B L : Nat → List In) (e : Bool) (j : Nat) : (brM B L e j).length ≤ 2 + (B (j + 1)).length + (L (j + 2 + (B (j + 1)).length)).length := by
  unfold brM
  by_cases hc : e = true
  · rw [if_pos hc, List.length_cons]; omega
  · rw [if_neg hc, List.length_cons, List.length_append, List.length_cons]; omega
theorem lpM_len (B : Nat → List In) (cb : List In) (i max : Int) (j : Nat) : (lpM B cb i max j).length = 13 + cb.length + (B (j + cb.length + 8)).length := by
  unfold lpM lpHead lpTest lpNext
  simp only [List.length_append, List.length_cons, List.length_nil]
  omega
theorem cdS_mk (S : List Bytes) (op : Int) (name : Bytes) (max : Int) (a b : E) (body els : List Stm) (k : Nat) : cdS S (.mk op name max a b body els) k =
    one 14 0 :: (if decide (op = 8) = true then [one 11 max] else
      codeM S a ++ (if decide (op = 1) = true then [one 4 (idxM S name)] else if decide (op = 2) = true then [one 4 (idxM S name)]
        else if decide (op = 3) = true then codeM S b ++ [one 8 0] else if decide (op = 4) = true then [one 9 0] else if decide (op = 7) = true then [one 10 0]
        else if decide (op = 5) = true then brM (fun j => cdL S body j) (fun j => cdL S els j) (decide ((els.length : Int) = 0)) (k + 1 + (codeM S a).length)
        else if decide (op = 6) = true then lpM (fun j => cdL S body j) (codeM S b) (idxM S name) max (k + 1 + (codeM S a).length) else [])) := by rw [cdS]
theorem cdL_cons (S : List Bytes) (x : Stm) (l : List Stm) (k : Nat) : cdL S (x :: l) k = cdS S x k ++ cdL S l (k + (cdS S x k).length) := by rw [cdL]
mutual
def lnS : Stm → Nat
  | .mk op name max a b body els => 14 + (visE a false).length + (visE b false).length + lnL body + lnL els
def lnL : List Stm → Nat
  | [] => 0
  | x :: l => lnS x + lnL l
end
theorem lnL_append : ∀ l m : List Stm, lnL (l ++ m) = lnL l + lnL m
  | [], m => by simp [lnL]
  | x :: l, m => by simp only [List.cons_append, lnL, lnL_append l m]; omega
mutual
theorem cdS_len (S : List Bytes) : ∀ (x : Stm) (k : Nat), (cdS S x k).length ≤ lnS x
  | .mk op name max a b body els, k => by
    have h1 := codeM_len S a false
    have h2 := codeM_len S b false
    have h3 := cdL_len S body
    have h4 := cdL_len S els
    have hbr : ∀ j, (brM (fun j => cdL S body j) (fun j => cdL S els j) (decide ((els.length : Int) = 0)) j).length ≤ 4 + lnL body + lnL els := by
      intro j
      have i1 := h3 (j + 1)
      have i2 := h4 (j + 2 + (cdL S body (j + 1)).length)
      have i3 : _ ≤ 2 + (cdL S body (j + 1)).length + (cdL S els (j + 2 + (cdL S body (j + 1)).length)).length := brM_len (fun j => cdL S body j) (fun j => cdL S els j) (decide ((els.length : Int) = 0)) j
      omega
    have hlp : ∀ j, (lpM (fun j => cdL S body j) (codeM S b) (idxM S name) max j).length ≤ 13 + (codeM S b).length + lnL body := by
      intro j
      have i1 := h3 (j + (codeM S b).length + 8)
      have i3 : _ = 13 + (codeM S b).length + (cdL S body (j + (codeM S b).length + 8)).length := lpM_len (fun j => cdL S body j) (codeM S b) (idxM S name) max j
      omega
    have i5 := hbr (k + 1 + (codeM S a).length)
    have i6 := hlp (k + 1 + (codeM S a).length)
    rw [cdS_mk, lnS, List.length_cons]
    generalize brM (fun j => cdL S body j) (fun j => cdL S els j) (decide ((els.length : Int) = 0)) (k + 1 + (codeM S a).length) = P at *
    generalize lpM (fun j => cdL S body j) (codeM S b) (idxM S name) max (k + 1 + (codeM S a).length) = Q at *
    clear h3 h4 hbr hlp
    by_cases c8 : decide (op = 8) = true
    · rw [if_pos c8, List.length_cons, List.length_nil]; omega
    rw [if_neg c8, List.length_append]
    by_cases c1 : decide (op = 1) = true
    · rw [if_pos c1, List.length_cons, List.length_nil]; omega
    rw [if_neg c1]
    by_cases c2 : decide (op = 2) = true
    · rw [if_pos c2, List.length_cons, List.length_nil]; omega
    rw [if_neg c2]
    by_cases c3 : decide (op = 3) = true
    · rw [if_pos c3, List.length_append, List.length_cons, List.length_nil]; omega
    rw [if_neg c3]
    by_cases c4 : decide (op = 4) = true
    · rw [if_pos c4, List.length_cons, List.length_nil]; omega
    rw [if_neg c4]
    by_cases c7 : decide (op = 7) = true
    · rw [if_pos c7, List.length_cons, List.length_nil]; omega
    rw [if_neg c7]
    by_cases c5 : decide (op = 5) = true
    · rw [if_pos c5]; omega
    rw [if_neg c5]
    by_cases c6 : decide (op = 6) = true
    · rw [if_pos c6]; omega
    rw [if_neg c6, List.length_nil]
    omega
theorem cdL_len (S : List Bytes) : ∀ (l : List Stm) (k : Nat), (cdL S l k).length ≤ lnL l
  | [], k => by simp [cdL]
  | x :: l, k => by
    have h1 := cdS_len S x k
    have h2 := cdL_len S l (k + (cdS S x k).length)
    rw [cdL_cons, lnL, List.length_append]
    omega
end
theorem cdL_snoc (S : List Bytes) : ∀ (l : List Stm) (x : Stm) (k : Nat), cdL S (l ++ [x]) k = cdL S l k ++ cdS S x (k + (cdL S l k).length)
  | [], x, k => by simp [cdL]
  | y :: l, x, k => by
    rw [List.cons_append, cdL_cons, cdL_cons, cdL_snoc S l x]
    simp only [List.append_assoc, List.length_append]
    rw [Nat.add_assoc]
end Go.Proofs.YtjmghomnbmbjnaaGreat
set_option linter.all false
namespace Go.Proofs.YtjmghomnbmbjnaaGreat
open Go.Abs
attribute [local congr] ite_congr
set_option maxRecDepth 10000
theorem emH_ne (A : AHeap) (S : List Bytes) {I : List In} (h : I ≠ []) : emH A S I = ⟨A.objs ++ [.cells [.own A.bufs.length I.length, .d (.slice (S.map sRow))]], A.bufs ++ [⟨46, 5, I.map In.row, 0⟩]⟩ := by
  unfold emH grJ agrow
  simp [h]
def In.to (x : In) (a : Int) : In := ⟨x.op, a, x.b, x.n, x.s⟩
theorem em_index (A : AHeap) (S : List Bytes) (J K : List In) (x : In) : aindex 5 (emH A S (J ++ x :: K)) (J.length : Nat) (grJ A (J ++ x :: K)).1 = some (.eptr A.bufs.length (J ++ x :: K).length J.length 0) := by
  rw [emH_ne A S (by simp), grJ_fst, if_neg (by simp)]
  simp [aindex]
theorem em_store (A : AHeap) (S : List Bytes) (J K : List In) (x : In) (v : Int) : astore (emH A S (J ++ x :: K)) [.d (.int .i64 v)] (.eptr A.bufs.length (J ++ x :: K).length J.length 1) = some (emH A S (J ++ x.to v :: K)) := by
  rw [emH_ne A S (by simp), emH_ne A S (by simp)]
  have h1 := fun B => adats_L (A := B) (vs := [.d (.int .i64 v)]) (ds := [.int .i64 v]) rfl
  simp [astore, h1, In.row, In.to]
theorem em_fin2 {f : FuncId} (ho : C.own f = false) (A : AHeap) (S : List Bytes) (J K : List In) (x : In) (v : Int) {w : AV} (hw : w.still3 = true) : afinR C f (emH A S (J ++ x :: K)) (emH A S (J ++ x.to v :: K)) (some w) = some (w.clean3, emH A S (J ++ x.to v :: K)) := by
  refine afinR_len ho hw ?_ ?_ <;> rw [emH_ne A S (by simp), emH_ne A S (by simp)] <;> simp
theorem targetP (A : AHeap) (S : List Bytes) (J K : List In) (x : In) : acl C 113 [.ptr A.objs.length 0, .d (.int .i64 (J.length : Nat))] (emH A S (J ++ x :: K)) = some (.tuple [], emH A S (J ++ x.to ((J ++ x :: K).length : Nat) :: K)) := by
  have e1 := hereP A S (J ++ x :: K)
  have e2 := em_obj A S (J ++ x :: K)
  have e3 := em_index A S J K x
  have e4 := em_store A S J K x ((J ++ x :: K).length : Nat)
  have e5 := em_fin2 (f := 113) rfl A S J K x ((J ++ x :: K).length : Nat) (w := .tuple []) rfl
  have e6 : usI (some (grJ A (J ++ x :: K)).1) = (false, true) := by rw [grJ_fst, if_neg (by simp)]; rfl
  generalize J ++ x.to ((J ++ x :: K).length : Nat) :: K = I2 at *
  generalize J ++ x :: K = I at *
  rw [k_call (c := C) (f := 113) rfl Tryz.func113 rfl (ok 113 (by kernel_rfl)) rfl Tryz.ntmps113 Tryz.results113 (by simp)]
  simp (maxSteps := 1000000) only [go_sem, acondK_bool, acB_merge, Nat.reduceLT, Nat.reduceLeDiff, Nat.reduceEqDiff, Nat.reduceAdd, Nat.reduceSub, Nat.reduceMul, Nat.reduceBEq, Nat.reduceBNe, Nat.reduceBneDiff, Nat.reduceBeqDiff, Int.reduceToNat, Int.reduceLE, Int.reduceLT, Int.reduceEq, Int.reduceNe, Int.reduceNeg, Int.reduceAdd, Int.reduceSub, ↓reduceIte, reduceCtorEq, k_drawn_t, e1, e2, e3, e4, e6]
  refine Eq.trans (ctE_ok (by repeat (first | exact MLe.nil | apply MLe.qq | apply MLe.q | apply MLe.o | apply MLe.b | apply MLe.l)) (by kernel_rfl)) ?_
  simp (maxSteps := 1000000) only [go_sem, acondK_bool, acB_merge, Nat.reduceLT, Nat.reduceLeDiff, Nat.reduceEqDiff, Nat.reduceAdd, Nat.reduceSub, Nat.reduceMul, Nat.reduceBEq, Nat.reduceBNe, Nat.reduceBneDiff, Nat.reduceBeqDiff, Int.reduceToNat, Int.reduceLE, Int.reduceLT, Int.reduceEq, Int.reduceNe, Int.reduceNeg, Int.reduceAdd, Int.reduceSub, ↓reduceIte, reduceCtorEq, e5]
end Go.Proofs.YtjmghomnbmbjnaaGreat
set_option linter.all false
namespace Go.Proofs.YtjmghomnbmbjnaaGreat
open Go.Abs
attribute [local congr] ite_congr
set_option maxRecDepth 10000
def BlkP (S : List Bytes) (l : List Stm) : Prop := ∀ (A : AHeap) (I : List In), I.length + lnL l ≤ 4000000 → acl C 29 [.ptr A.objs.length 0, .d (.slice (l.map Stm.row))] (emH A S I) = some (.tuple [], emH A S (I ++ cdL S l I.length))
theorem branchP (S : List Bytes) (op : Int) (name : Bytes) (max : Int) (a b : E) (body els : List Stm) (hb : BlkP S body) (he : BlkP S els) (A : AHeap) (I : List In) (hI : I.length + 4 + lnL body + lnL els ≤ 4000000) :
    acl C 84 [.ptr A.objs.length 0, Stm.av (.mk op name max a b body els)] (emH A S I) = some (.tuple [], emH A S (I ++ brM (fun j => cdL S body j) (fun j => cdL S els j) (decide ((els.length : Int) = 0)) I.length)) := by
  have c1 := cdL_len S body (I.length + 1)
  have c2 := cdL_len S els (I.length + 2 + (cdL S body (I.length + 1)).length)
  have e1 := emitP A S I (one 7 0) (by omega)
  change acl C _ [_, .agg [.d (.int .i64 7), .d (.int .i64 0), .d (.int .i64 0), .d (.int .i64 0), .d (.str [])]] _ = _ at e1
  have e2 := hb A (I ++ [one 7 0]) (by simp; omega)
  rw [List.length_append, List.length_cons, List.length_nil] at e2
  have fin := fun l => em_finL (f := 84) rfl A S I l (v := .tuple []) rfl
  unfold brM
  dsimp only
  rw [k_call (c := C) (f := 84) rfl Tryz.func84 rfl (ok 84 (by kernel_rfl)) rfl Tryz.ntmps84 Tryz.results84 (by simp)]
  cases h5 : decide ((els.length : Int) = 0) with
  | true =>
    rw [if_pos rfl]
    generalize cdL S body (I.length + 1) = B at *
    have e3 := targetP A S I B (one 7 0)
    have e4 := fin (one 7 ((I.length + 1 + B.length : Nat) : Int) :: B)
    have q1 : (one 7 0).to ((I ++ one 7 0 :: B).length : Nat) = one 7 ((I.length + 1 + B.length : Nat) : Int) := by
      have : (I ++ one 7 0 :: B).length = I.length + 1 + B.length := by simp; omega
      rw [this]
      rfl
    rw [q1] at e3
    rw [List.append_assoc, List.singleton_append] at e2
    generalize I ++ one 7 ((I.length + 1 + B.length : Nat) : Int) :: B = I3 at *
    generalize I ++ one 7 0 :: B = I2 at *
    generalize I ++ [one 7 0] = I1 at *
    simp (maxSteps := 1000000) only [go_sem, acondK_bool, acB_merge, Nat.reduceLT, Nat.reduceLeDiff, Nat.reduceEqDiff, Nat.reduceAdd, Nat.reduceSub, Nat.reduceMul, Nat.reduceBEq, Nat.reduceBNe, Nat.reduceBneDiff, Nat.reduceBeqDiff, Int.reduceToNat, Int.reduceLE, Int.reduceLT, Int.reduceEq, Int.reduceNe, Int.reduceNeg, Int.reduceAdd, Int.reduceSub, ↓reduceIte, reduceCtorEq, k_drawn_t, e1, e2, h5]
    simp (maxSteps := 1000000) only [go_sem, acondK_bool, acB_merge, Nat.reduceLT, Nat.reduceLeDiff, Nat.reduceEqDiff, Nat.reduceAdd, Nat.reduceSub, Nat.reduceMul, Nat.reduceBEq, Nat.reduceBNe, Nat.reduceBneDiff, Nat.reduceBeqDiff, Int.reduceToNat, Int.reduceLE, Int.reduceLT, Int.reduceEq, Int.reduceNe, Int.reduceNeg, Int.reduceAdd, Int.reduceSub, ↓reduceIte, reduceCtorEq, k_drawn_t, e3, e4]
  | false =>
    rw [if_neg (by decide)]
    generalize hB : cdL S body (I.length + 1) = B at *
    rw [List.append_assoc, List.singleton_append] at e2
    have e3 := emitP A S (I ++ one 7 0 :: B) (one 6 0) (by simp; omega)
    change acl C _ [_, .agg [.d (.int .i64 6), .d (.int .i64 0), .d (.int .i64 0), .d (.int .i64 0), .d (.str [])]] _ = _ at e3
    rw [List.append_assoc, List.cons_append] at e3
    have e4 := targetP A S I (B ++ [one 6 0]) (one 7 0)
    have q1 : (one 7 0).to ((I ++ one 7 0 :: (B ++ [one 6 0])).length : Nat) = one 7 ((I.length + 2 + B.length : Nat) : Int) := by
      have : (I ++ one 7 0 :: (B ++ [one 6 0])).length = I.length + 2 + B.length := by simp; omega
      rw [this]
      rfl
    rw [q1] at e4
    have e5 := he A (I ++ one 7 ((I.length + 2 + B.length : Nat) : Int) :: (B ++ [one 6 0])) (by simp; omega)
    have q2 : (I ++ one 7 ((I.length + 2 + B.length : Nat) : Int) :: (B ++ [one 6 0])).length = I.length + 2 + B.length := by simp; omega
    rw [q2] at e5
    have q3 : (I ++ one 7 0 :: B).length = (I ++ one 7 ((I.length + 2 + B.length : Nat) : Int) :: B).length := by simp
    rw [q3] at e3
    generalize cdL S els (I.length + 2 + B.length) = L at *
    have e6 := targetP A S (I ++ one 7 ((I.length + 2 + B.length : Nat) : Int) :: B) L (one 6 0)
    have q4 : (one 6 0).to (((I ++ one 7 ((I.length + 2 + B.length : Nat) : Int) :: B) ++ one 6 0 :: L).length : Nat) = one 6 ((I.length + 2 + B.length + L.length : Nat) : Int) := by
      have : ((I ++ one 7 ((I.length + 2 + B.length : Nat) : Int) :: B) ++ one 6 0 :: L).length = I.length + 2 + B.length + L.length := by simp; omega
      rw [this]
      rfl
    rw [q4] at e6
    have e7 := fin (one 7 ((I.length + 2 + B.length : Nat) : Int) :: (B ++ one 6 ((I.length + 2 + B.length + L.length : Nat) : Int) :: L))
    generalize one 7 ((I.length + 2 + B.length : Nat) : Int) = x7 at *
    generalize one 6 ((I.length + 2 + B.length + L.length : Nat) : Int) = x6 at *
    have w1 : I ++ x7 :: (B ++ [one 6 0]) ++ L = I ++ x7 :: B ++ one 6 0 :: L := by simp
    have w2 : I ++ x7 :: B ++ x6 :: L = I ++ x7 :: (B ++ x6 :: L) := by simp
    rw [w1] at e5
    rw [w2] at e6
    generalize I ++ x7 :: (B ++ x6 :: L) = I6 at *
    generalize I ++ x7 :: B ++ one 6 0 :: L = I5 at *
    generalize I ++ x7 :: (B ++ [one 6 0]) = I4 at *
    generalize I ++ one 7 0 :: (B ++ [one 6 0]) = I3 at *
    generalize I ++ one 7 0 :: B = I2 at *
    generalize I ++ [one 7 0] = I1 at *
    generalize (I ++ x7 :: B).length = n6 at *
    simp (maxSteps := 1000000) only [go_sem, acondK_bool, acB_merge, Nat.reduceLT, Nat.reduceLeDiff, Nat.reduceEqDiff, Nat.reduceAdd, Nat.reduceSub, Nat.reduceMul, Nat.reduceBEq, Nat.reduceBNe, Nat.reduceBneDiff, Nat.reduceBeqDiff, Int.reduceToNat, Int.reduceLE, Int.reduceLT, Int.reduceEq, Int.reduceNe, Int.reduceNeg, Int.reduceAdd, Int.reduceSub, ↓reduceIte, reduceCtorEq, k_drawn_t, e1, e2, h5]
    simp (maxSteps := 1000000) only [go_sem, acondK_bool, acB_merge, Nat.reduceLT, Nat.reduceLeDiff, Nat.reduceEqDiff, Nat.reduceAdd, Nat.reduceSub, Nat.reduceMul, Nat.reduceBEq, Nat.reduceBNe, Nat.reduceBneDiff, Nat.reduceBeqDiff, Int.reduceToNat, Int.reduceLE, Int.reduceLT, Int.reduceEq, Int.reduceNe, Int.reduceNeg, Int.reduceAdd, Int.reduceSub, ↓reduceIte, reduceCtorEq, k_drawn_t, e3, e4, e5, e6, e7]
theorem idxF_bound (f : Bytes → Bool) : ∀ (l : List Bytes) (k : Nat), -1 ≤ idxF f l k ∧ idxF f l k ≤ k + l.length
  | [], k => by simp only [idxF]; simp
  | x :: l, k => by
    have := idxF_bound f l (k + 1)
    simp only [idxF, List.length_cons]
    split <;> omega
theorem idxM_bound (S : List Bytes) (w : Bytes) : -1 ≤ idxM S w ∧ idxM S w ≤ S.length := by
  unfold idxM
  split
  · omega
  · have := idxF_bound (fun s => w == s) S 0
    unfold slotN
    omega
set_option maxHeartbeats 4000000 in
theorem loopP (S : List Bytes) (hS : S.length ≤ 4194303) (op : Int) (name : Bytes) (max : Int) (a b : E) (ob : b.Ok) (body els : List Stm) (hb : BlkP S body) (A : AHeap) (I : List In) (hI : I.length + 13 + (visE b false).length + lnL body ≤ 4000000) :
    acl C 85 [.ptr A.objs.length 0, Stm.av (.mk op name max a b body els)] (emH A S I) = some (.tuple [], emH A S (I ++ lpM (fun j => cdL S body j) (codeM S b) (idxM S name) max I.length)) := by
  have cb := codeM_len S b false
  have c1 := cdL_len S body (I.length + (codeM S b).length + 8)
  have i1 := indexP A S hS I name
  change acl C _ _ _ = some (AV.d (Dat.int .i64 (idxM S name)), _) at i1
  have i2 := idxM_bound S name
  generalize idxM S name = i at *
  have w1 : IntKind.i64.wrap (i + 1) = i + 1 := wrap_in (by omega) (by omega)
  have fin := fun l => em_finL (f := 85) rfl A S I l (v := .tuple []) rfl
  have x1 := slotP A S I 4 i (by omega)
  obtain ⟨I1, h1⟩ : ∃ J, J = I ++ [one 4 i] := ⟨_, rfl⟩
  have l1 : I1.length = I.length + 1 := by rw [h1]; simp
  rw [← h1] at x1
  have x2 := exprP A S hS b ob I1 (by omega)
  obtain ⟨I2, h2⟩ : ∃ J, J = I1 ++ codeM S b := ⟨_, rfl⟩
  have l2 : I2.length = I1.length + (codeM S b).length := by rw [h2]; simp
  rw [← h2] at x2
  have x3 := slotP A S I2 4 (i + 1) (by omega)
  obtain ⟨I3, h3⟩ : ∃ J, J = I2 ++ [one 4 (i + 1)] := ⟨_, rfl⟩
  have l3 : I3.length = I2.length + 1 := by rw [h3]; simp
  rw [← h3] at x3
  have x4 := emitP A S I3 ⟨12, i, i + 1, max, []⟩ (by omega)
  obtain ⟨I4, h4⟩ : ∃ J, J = I3 ++ [⟨12, i, i + 1, max, []⟩] := ⟨_, rfl⟩
  have l4 : I4.length = I3.length + 1 := by rw [h4]; simp
  rw [← h4] at x4
  change acl C _ [_, .agg [.d (.int .i64 12), .d (.int .i64 i), .d (.int .i64 (i + 1)), .d (.int .i64 max), .d (.str [])]] _ = _ at x4
  have x5 := hereP A S I4
  have x6 := slotP A S I4 3 i (by omega)
  obtain ⟨I6, h6⟩ : ∃ J, J = I4 ++ [one 3 i] := ⟨_, rfl⟩
  have l6 : I6.length = I4.length + 1 := by rw [h6]; simp
  rw [← h6] at x6
  have x7 := slotP A S I6 3 (i + 1) (by omega)
  obtain ⟨I7, h7⟩ : ∃ J, J = I6 ++ [one 3 (i + 1)] := ⟨_, rfl⟩
  have l7 : I7.length = I6.length + 1 := by rw [h7]; simp
  rw [← h7] at x7
  have x8 := slotP A S I7 5 12 (by omega)
  obtain ⟨I8, h8⟩ : ∃ J, J = I7 ++ [one 5 12] := ⟨_, rfl⟩
  have l8 : I8.length = I7.length + 1 := by rw [h8]; simp
  rw [← h8] at x8
  have x9 := emitP A S I8 (one 7 0) (by omega)
  change acl C _ [_, .agg [.d (.int .i64 7), .d (.int .i64 0), .d (.int .i64 0), .d (.int .i64 0), .d (.str [])]] _ = _ at x9
  obtain ⟨I9, h9⟩ : ∃ J, J = I8 ++ [one 7 0] := ⟨_, rfl⟩
  have l9 : I9.length = I8.length + 1 := by rw [h9]; simp
  rw [← h9] at x9
  have x10 := opP A S I9 14 (by omega)
  obtain ⟨I10, h10⟩ : ∃ J, J = I9 ++ [one 14 0] := ⟨_, rfl⟩
  have l10 : I10.length = I9.length + 1 := by rw [h10]; simp
  rw [← h10] at x10
  have x11 := hb A I10 (by omega)
  have m1 : I10.length = I.length + (codeM S b).length + 8 := by omega
  rw [m1] at x11
  unfold lpM
  dsimp only
  generalize cdL S body (I.length + (codeM S b).length + 8) = B at *
  obtain ⟨I11, h11⟩ : ∃ J, J = I10 ++ B := ⟨_, rfl⟩
  have l11 : I11.length = I10.length + B.length := by rw [h11]; simp
  rw [← h11] at x11
  have x12 := slotP A S I11 3 i (by omega)
  obtain ⟨I12, h12⟩ : ∃ J, J = I11 ++ [one 3 i] := ⟨_, rfl⟩
  have l12 : I12.length = I11.length + 1 := by rw [h12]; simp
  rw [← h12] at x12
  have x13 := emitP A S I12 ⟨1, 0, 0, 1, []⟩ (by omega)
  change acl C _ [_, .agg [.d (.int .i64 1), .d (.int .i64 0), .d (.int .i64 0), .d (.int .i64 1), .d (.str [])]] _ = _ at x13
  obtain ⟨I13, h13⟩ : ∃ J, J = I12 ++ [⟨1, 0, 0, 1, []⟩] := ⟨_, rfl⟩
  have l13 : I13.length = I12.length + 1 := by rw [h13]; simp
  rw [← h13] at x13
  have x14 := slotP A S I13 5 4 (by omega)
  obtain ⟨I14, h14⟩ : ∃ J, J = I13 ++ [one 5 4] := ⟨_, rfl⟩
  have l14 : I14.length = I13.length + 1 := by rw [h14]; simp
  rw [← h14] at x14
  have x15 := slotP A S I14 4 i (by omega)
  obtain ⟨I15, h15⟩ : ∃ J, J = I14 ++ [one 4 i] := ⟨_, rfl⟩
  have l15 : I15.length = I14.length + 1 := by rw [h15]; simp
  rw [← h15] at x15
  have x16 := slotP A S I15 6 ((I4.length : Nat) : Int) (by omega)
  obtain ⟨I16, h16⟩ : ∃ J, J = I15 ++ [one 6 ((I4.length : Nat) : Int)] := ⟨_, rfl⟩
  have l16 : I16.length = I15.length + 1 := by rw [h16]; simp
  rw [← h16] at x16
  have m2 : I4.length = I.length + (codeM S b).length + 3 := by omega
  have m3 : I16.length = I.length + (codeM S b).length + 13 + B.length := by omega
  have hall : I16 = I8 ++ one 7 0 :: (one 14 0 :: (B ++ lpNext i ((I4.length : Nat) : Int))) := by
    rw [h16, h15, h14, h13, h12, h11, h10, h9]
    simp [lpNext]
  have x17 := targetP A S I8 (one 14 0 :: (B ++ lpNext i ((I4.length : Nat) : Int))) (one 7 0)
  rw [← hall] at x17
  have q1 : (one 7 0).to ((I16.length : Nat) : Int) = one 7 ((I.length + (codeM S b).length + 13 + B.length : Nat) : Int) := by
    rw [m3]
    rfl
  rw [q1] at x17
  have hend : I8 ++ one 7 ((I.length + (codeM S b).length + 13 + B.length : Nat) : Int) :: (one 14 0 :: (B ++ lpNext i ((I4.length : Nat) : Int))) =
      I ++ (lpHead i max (codeM S b) ++ (lpTest i ++ (one 7 ((I.length + (codeM S b).length + 13 + B.length : Nat) : Int) :: one 14 0 :: (B ++ lpNext i ((I.length + (codeM S b).length + 3 : Nat) : Int))))) := by
    rw [← m2, h8, h7, h6, h4, h3, h2, h1]
    simp [lpHead, lpTest]
  rw [hend] at x17
  have x18 := fin (lpHead i max (codeM S b) ++ (lpTest i ++ (one 7 ((I.length + (codeM S b).length + 13 + B.length : Nat) : Int) :: one 14 0 :: (B ++ lpNext i ((I.length + (codeM S b).length + 3 : Nat) : Int)))))
  generalize I ++ (lpHead i max (codeM S b) ++ (lpTest i ++ (one 7 ((I.length + (codeM S b).length + 13 + B.length : Nat) : Int) :: one 14 0 :: (B ++ lpNext i ((I.length + (codeM S b).length + 3 : Nat) : Int))))) = I18 at *
  clear h1 h2 h3 h4 h6 h7 h8 h9 h10 h11 h12 h13 h14 h15 h16 hall hend m1 m2 m3 q1 l1 l2 l3 l4 l6 l7 l8 l9 l10 l11 l12 l13 l14 l15 l16 hI cb c1 hb fin
  rw [k_call (c := C) (f := 85) rfl Tryz.func85 rfl (ok 85 (by kernel_rfl)) rfl Tryz.ntmps85 Tryz.results85 (by simp)]
  simp (maxSteps := 1000000) only [go_sem, acondK_bool, acB_merge, Nat.reduceLT, Nat.reduceLeDiff, Nat.reduceEqDiff, Nat.reduceAdd, Nat.reduceSub, Nat.reduceMul, Nat.reduceBEq, Nat.reduceBNe, Nat.reduceBneDiff, Nat.reduceBeqDiff, Int.reduceToNat, Int.reduceLE, Int.reduceLT, Int.reduceEq, Int.reduceNe, Int.reduceNeg, Int.reduceAdd, Int.reduceSub, ↓reduceIte, reduceCtorEq, i1, w1, x1, x2, x3]
  simp (maxSteps := 1000000) only [go_sem, acondK_bool, acB_merge, Nat.reduceLT, Nat.reduceLeDiff, Nat.reduceEqDiff, Nat.reduceAdd, Nat.reduceSub, Nat.reduceMul, Nat.reduceBEq, Nat.reduceBNe, Nat.reduceBneDiff, Nat.reduceBeqDiff, Int.reduceToNat, Int.reduceLE, Int.reduceLT, Int.reduceEq, Int.reduceNe, Int.reduceNeg, Int.reduceAdd, Int.reduceSub, ↓reduceIte, reduceCtorEq, k_drawn_t, w1, x4]
  refine Eq.trans (ctE_ok (by repeat (first | exact MLe.nil | apply MLe.qq | apply MLe.q | apply MLe.o | apply MLe.b | apply MLe.l)) (by kernel_rfl)) ?_
  simp (maxSteps := 1000000) only [go_sem, acondK_bool, acB_merge, Nat.reduceLT, Nat.reduceLeDiff, Nat.reduceEqDiff, Nat.reduceAdd, Nat.reduceSub, Nat.reduceMul, Nat.reduceBEq, Nat.reduceBNe, Nat.reduceBneDiff, Nat.reduceBeqDiff, Int.reduceToNat, Int.reduceLE, Int.reduceLT, Int.reduceEq, Int.reduceNe, Int.reduceNeg, Int.reduceAdd, Int.reduceSub, ↓reduceIte, reduceCtorEq, w1, x5, x6, x7, x8]
  simp (maxSteps := 1000000) only [go_sem, acondK_bool, acB_merge, Nat.reduceLT, Nat.reduceLeDiff, Nat.reduceEqDiff, Nat.reduceAdd, Nat.reduceSub, Nat.reduceMul, Nat.reduceBEq, Nat.reduceBNe, Nat.reduceBneDiff, Nat.reduceBeqDiff, Int.reduceToNat, Int.reduceLE, Int.reduceLT, Int.reduceEq, Int.reduceNe, Int.reduceNeg, Int.reduceAdd, Int.reduceSub, ↓reduceIte, reduceCtorEq, x9, x10, x11, x12, x13]
  simp (maxSteps := 1000000) only [go_sem, acondK_bool, acB_merge, Nat.reduceLT, Nat.reduceLeDiff, Nat.reduceEqDiff, Nat.reduceAdd, Nat.reduceSub, Nat.reduceMul, Nat.reduceBEq, Nat.reduceBNe, Nat.reduceBneDiff, Nat.reduceBeqDiff, Int.reduceToNat, Int.reduceLE, Int.reduceLT, Int.reduceEq, Int.reduceNe, Int.reduceNeg, Int.reduceAdd, Int.reduceSub, ↓reduceIte, reduceCtorEq, x14, x15, x16, x17, x18]
end Go.Proofs.YtjmghomnbmbjnaaGreat
set_option linter.all false
namespace Go.Proofs.YtjmghomnbmbjnaaGreat
open Go.Abs
attribute [local congr] ite_congr
set_option maxRecDepth 10000
def StmP (S : List Bytes) (x : Stm) : Prop := ∀ (A : AHeap) (I : List In), I.length + lnS x ≤ 4000000 → acl C 52 [.ptr A.objs.length 0, Stm.av x] (emH A S I) = some (.tuple [], emH A S (I ++ cdS S x I.length))
set_option maxHeartbeats 4000000 in
theorem stmEm (S : List Bytes) (hS : S.length ≤ 4194303) (x : Stm) (hx : x.Ok) (hb : BlkP S x.body) (he : BlkP S x.els) : StmP S x := by
  intro A I hI
  have oa := Stm.Ok.a hx
  have ob := Stm.Ok.b hx
  obtain ⟨op, name, max, a, b, body, els⟩ := x
  simp only [Stm.a, Stm.b, Stm.body, Stm.els] at oa ob hb he
  rw [lnS] at hI
  have fin := fun l => em_finL (f := 52) rfl A S I l (v := .tuple []) rfl
  have ca := codeM_len S a false
  have cb := codeM_len S b false
  rw [cdS_mk]
  have x1 := opP A S I 14 (by omega)
  obtain ⟨I1, h1⟩ : ∃ J, J = I ++ [one 14 0] := ⟨_, rfl⟩
  have l1 : I1.length = I.length + 1 := by rw [h1]; simp
  rw [← h1] at x1
  have hcons : ∀ l : List In, I ++ one 14 0 :: l = I1 ++ l := by intro l; rw [h1]; simp
  have fin2 := fun l => fin (one 14 0 :: l)
  simp only [hcons] at fin2 ⊢
  clear hcons fin
  rw [k_call (c := C) (f := 52) rfl Tryz.func52 rfl (ok 52 (by kernel_rfl)) rfl Tryz.ntmps52 Tryz.results52 (by simp)]
  cases d8 : decide (op = 8) with
  | true =>
    rw [if_pos rfl]
    have x2 := slotP A S I1 11 max (by omega)
    have x3 := fin2 [one 11 max]
    generalize I1 ++ [one 11 max] = I2 at *
    simp (maxSteps := 1000000) only [go_sem, acondK_bool, acB_merge, Nat.reduceLT, Nat.reduceLeDiff, Nat.reduceEqDiff, Nat.reduceAdd, Nat.reduceSub, Nat.reduceMul, Nat.reduceBEq, Nat.reduceBNe, Nat.reduceBneDiff, Nat.reduceBeqDiff, Int.reduceToNat, Int.reduceLE, Int.reduceLT, Int.reduceEq, Int.reduceNe, Int.reduceNeg, Int.reduceAdd, Int.reduceSub, ↓reduceIte, reduceCtorEq, x1, d8]
    simp (maxSteps := 1000000) only [go_sem, acondK_bool, acB_merge, Nat.reduceLT, Nat.reduceLeDiff, Nat.reduceEqDiff, Nat.reduceAdd, Nat.reduceSub, Nat.reduceMul, Nat.reduceBEq, Nat.reduceBNe, Nat.reduceBneDiff, Nat.reduceBeqDiff, Int.reduceToNat, Int.reduceLE, Int.reduceLT, Int.reduceEq, Int.reduceNe, Int.reduceNeg, Int.reduceAdd, Int.reduceSub, ↓reduceIte, reduceCtorEq, k_drawn_t, x2]
    refine Eq.trans (ctE_ok (by repeat (first | exact MLe.nil | apply MLe.qq | apply MLe.q | apply MLe.o | apply MLe.b | apply MLe.l)) (by kernel_rfl)) ?_
    simp (maxSteps := 1000000) only [go_sem, acondK_bool, acB_merge, Nat.reduceLT, Nat.reduceLeDiff, Nat.reduceEqDiff, Nat.reduceAdd, Nat.reduceSub, Nat.reduceMul, Nat.reduceBEq, Nat.reduceBNe, Nat.reduceBneDiff, Nat.reduceBeqDiff, Int.reduceToNat, Int.reduceLE, Int.reduceLT, Int.reduceEq, Int.reduceNe, Int.reduceNeg, Int.reduceAdd, Int.reduceSub, ↓reduceIte, reduceCtorEq, x3]
  | false =>
  rw [if_neg (by decide)]
  have x2 := exprP A S hS a oa I1 (by omega)
  obtain ⟨I2, h2⟩ : ∃ J, J = I1 ++ codeM S a := ⟨_, rfl⟩
  have l2 : I2.length = I1.length + (codeM S a).length := by rw [h2]; simp
  rw [← h2] at x2
  have hassoc : ∀ l : List In, I1 ++ (codeM S a ++ l) = I2 ++ l := by intro l; rw [h2]; simp
  have fin3 := fun l => fin2 (codeM S a ++ l)
  simp only [hassoc] at fin3 ⊢
  clear hassoc fin2
  have hk : I.length + 1 + (codeM S a).length = I2.length := by omega
  rw [hk]
  have i1 := indexP A S hS I2 name
  change acl C _ _ _ = some (AV.d (Dat.int .i64 (idxM S name)), _) at i1
  have s1 := slotP A S I2 4 (idxM S name) (by omega)
  cases d1 : decide (op = 1) with
  | true =>
    rw [if_pos rfl]
    have x3 := fin3 [one 4 (idxM S name)]
    generalize idxM S name = i at *
    generalize I2 ++ [one 4 i] = I3 at *
    simp (maxSteps := 1000000) only [go_sem, acondK_bool, acB_merge, Nat.reduceLT, Nat.reduceLeDiff, Nat.reduceEqDiff, Nat.reduceAdd, Nat.reduceSub, Nat.reduceMul, Nat.reduceBEq, Nat.reduceBNe, Nat.reduceBneDiff, Nat.reduceBeqDiff, Int.reduceToNat, Int.reduceLE, Int.reduceLT, Int.reduceEq, Int.reduceNe, Int.reduceNeg, Int.reduceAdd, Int.reduceSub, ↓reduceIte, reduceCtorEq, x1, d8, x2, d1]
    simp (maxSteps := 1000000) only [go_sem, acondK_bool, acB_merge, Nat.reduceLT, Nat.reduceLeDiff, Nat.reduceEqDiff, Nat.reduceAdd, Nat.reduceSub, Nat.reduceMul, Nat.reduceBEq, Nat.reduceBNe, Nat.reduceBneDiff, Nat.reduceBeqDiff, Int.reduceToNat, Int.reduceLE, Int.reduceLT, Int.reduceEq, Int.reduceNe, Int.reduceNeg, Int.reduceAdd, Int.reduceSub, ↓reduceIte, reduceCtorEq, k_drawn_t, i1, s1]
    refine Eq.trans (ctE_ok (by repeat (first | exact MLe.nil | apply MLe.qq | apply MLe.q | apply MLe.o | apply MLe.b | apply MLe.l)) (by kernel_rfl)) ?_
    simp (maxSteps := 1000000) only [go_sem, acondK_bool, acB_merge, Nat.reduceLT, Nat.reduceLeDiff, Nat.reduceEqDiff, Nat.reduceAdd, Nat.reduceSub, Nat.reduceMul, Nat.reduceBEq, Nat.reduceBNe, Nat.reduceBneDiff, Nat.reduceBeqDiff, Int.reduceToNat, Int.reduceLE, Int.reduceLT, Int.reduceEq, Int.reduceNe, Int.reduceNeg, Int.reduceAdd, Int.reduceSub, ↓reduceIte, reduceCtorEq, x3]
  | false =>
  rw [if_neg (by decide)]
  cases d2 : decide (op = 2) with
  | true =>
    rw [if_pos rfl]
    have x3 := fin3 [one 4 (idxM S name)]
    generalize idxM S name = i at *
    generalize I2 ++ [one 4 i] = I3 at *
    simp (maxSteps := 1000000) only [go_sem, acondK_bool, acB_merge, Nat.reduceLT, Nat.reduceLeDiff, Nat.reduceEqDiff, Nat.reduceAdd, Nat.reduceSub, Nat.reduceMul, Nat.reduceBEq, Nat.reduceBNe, Nat.reduceBneDiff, Nat.reduceBeqDiff, Int.reduceToNat, Int.reduceLE, Int.reduceLT, Int.reduceEq, Int.reduceNe, Int.reduceNeg, Int.reduceAdd, Int.reduceSub, ↓reduceIte, reduceCtorEq, x1, d8, x2, d1, d2]
    simp (maxSteps := 1000000) only [go_sem, acondK_bool, acB_merge, Nat.reduceLT, Nat.reduceLeDiff, Nat.reduceEqDiff, Nat.reduceAdd, Nat.reduceSub, Nat.reduceMul, Nat.reduceBEq, Nat.reduceBNe, Nat.reduceBneDiff, Nat.reduceBeqDiff, Int.reduceToNat, Int.reduceLE, Int.reduceLT, Int.reduceEq, Int.reduceNe, Int.reduceNeg, Int.reduceAdd, Int.reduceSub, ↓reduceIte, reduceCtorEq, k_drawn_t, i1, s1]
    refine Eq.trans (ctE_ok (by repeat (first | exact MLe.nil | apply MLe.qq | apply MLe.q | apply MLe.o | apply MLe.b | apply MLe.l)) (by kernel_rfl)) ?_
    simp (maxSteps := 1000000) only [go_sem, acondK_bool, acB_merge, Nat.reduceLT, Nat.reduceLeDiff, Nat.reduceEqDiff, Nat.reduceAdd, Nat.reduceSub, Nat.reduceMul, Nat.reduceBEq, Nat.reduceBNe, Nat.reduceBneDiff, Nat.reduceBeqDiff, Int.reduceToNat, Int.reduceLE, Int.reduceLT, Int.reduceEq, Int.reduceNe, Int.reduceNeg, Int.reduceAdd, Int.reduceSub, ↓reduceIte, reduceCtorEq, x3]
  | false =>
  rw [if_neg (by decide)]
  cases d3 : decide (op = 3) with
  | true =>
    rw [if_pos rfl]
    have y1 := exprP A S hS b ob I2 (by omega)
    have y2 := opP A S (I2 ++ codeM S b) 8 (by simp; omega)
    have x3 := fin3 (codeM S b ++ [one 8 0])
    rw [List.append_assoc] at y2
    generalize I2 ++ (codeM S b ++ [one 8 0]) = I4 at *
    generalize I2 ++ codeM S b = I3 at *
    simp (maxSteps := 1000000) only [go_sem, acondK_bool, acB_merge, Nat.reduceLT, Nat.reduceLeDiff, Nat.reduceEqDiff, Nat.reduceAdd, Nat.reduceSub, Nat.reduceMul, Nat.reduceBEq, Nat.reduceBNe, Nat.reduceBneDiff, Nat.reduceBeqDiff, Int.reduceToNat, Int.reduceLE, Int.reduceLT, Int.reduceEq, Int.reduceNe, Int.reduceNeg, Int.reduceAdd, Int.reduceSub, ↓reduceIte, reduceCtorEq, x1, d8, x2, d1, d2, d3, y1, y2, x3]
  | false =>
  rw [if_neg (by decide)]
  cases d4 : decide (op = 4) with
  | true =>
    rw [if_pos rfl]
    have y2 := opP A S I2 9 (by omega)
    have x3 := fin3 [one 9 0]
    generalize I2 ++ [one 9 0] = I3 at *
    simp (maxSteps := 1000000) only [go_sem, acondK_bool, acB_merge, Nat.reduceLT, Nat.reduceLeDiff, Nat.reduceEqDiff, Nat.reduceAdd, Nat.reduceSub, Nat.reduceMul, Nat.reduceBEq, Nat.reduceBNe, Nat.reduceBneDiff, Nat.reduceBeqDiff, Int.reduceToNat, Int.reduceLE, Int.reduceLT, Int.reduceEq, Int.reduceNe, Int.reduceNeg, Int.reduceAdd, Int.reduceSub, ↓reduceIte, reduceCtorEq, x1, d8, x2, d1, d2, d3, d4, y2, x3]
  | false =>
  rw [if_neg (by decide)]
  cases d7 : decide (op = 7) with
  | true =>
    rw [if_pos rfl]
    have y2 := opP A S I2 10 (by omega)
    have x3 := fin3 [one 10 0]
    generalize I2 ++ [one 10 0] = I3 at *
    simp (maxSteps := 1000000) only [go_sem, acondK_bool, acB_merge, Nat.reduceLT, Nat.reduceLeDiff, Nat.reduceEqDiff, Nat.reduceAdd, Nat.reduceSub, Nat.reduceMul, Nat.reduceBEq, Nat.reduceBNe, Nat.reduceBneDiff, Nat.reduceBeqDiff, Int.reduceToNat, Int.reduceLE, Int.reduceLT, Int.reduceEq, Int.reduceNe, Int.reduceNeg, Int.reduceAdd, Int.reduceSub, ↓reduceIte, reduceCtorEq, x1, d8, x2, d1, d2, d3, d4, d7, y2, x3]
  | false =>
  rw [if_neg (by decide)]
  cases d5 : decide (op = 5) with
  | true =>
    rw [if_pos rfl]
    have y2 := branchP S op name max a b body els hb he A I2 (by omega)
    change acl C _ [_, Stm.av (.mk op name max a b body els)] _ = _ at y2
    have x3 := fin3 (brM (fun j => cdL S body j) (fun j => cdL S els j) (decide ((els.length : Int) = 0)) I2.length)
    generalize brM (fun j => cdL S body j) (fun j => cdL S els j) (decide ((els.length : Int) = 0)) I2.length = K at *
    generalize I2 ++ K = I3 at *
    simp (maxSteps := 1000000) only [go_sem, acondK_bool, acB_merge, Nat.reduceLT, Nat.reduceLeDiff, Nat.reduceEqDiff, Nat.reduceAdd, Nat.reduceSub, Nat.reduceMul, Nat.reduceBEq, Nat.reduceBNe, Nat.reduceBneDiff, Nat.reduceBeqDiff, Int.reduceToNat, Int.reduceLE, Int.reduceLT, Int.reduceEq, Int.reduceNe, Int.reduceNeg, Int.reduceAdd, Int.reduceSub, ↓reduceIte, reduceCtorEq, x1, d8, x2, d1, d2, d3, d4, d7, d5, y2, x3]
  | false =>
  rw [if_neg (by decide)]
  cases d6 : decide (op = 6) with
  | true =>
    rw [if_pos rfl]
    have y2 := loopP S hS op name max a b ob body els hb A I2 (by omega)
    have x3 := fin3 (lpM (fun j => cdL S body j) (codeM S b) (idxM S name) max I2.length)
    generalize lpM (fun j => cdL S body j) (codeM S b) (idxM S name) max I2.length = K at *
    generalize I2 ++ K = I3 at *
    simp (maxSteps := 1000000) only [go_sem, acondK_bool, acB_merge, Nat.reduceLT, Nat.reduceLeDiff, Nat.reduceEqDiff, Nat.reduceAdd, Nat.reduceSub, Nat.reduceMul, Nat.reduceBEq, Nat.reduceBNe, Nat.reduceBneDiff, Nat.reduceBeqDiff, Int.reduceToNat, Int.reduceLE, Int.reduceLT, Int.reduceEq, Int.reduceNe, Int.reduceNeg, Int.reduceAdd, Int.reduceSub, ↓reduceIte, reduceCtorEq, x1, d8, x2, d1, d2, d3, d4, d7, d5, d6, y2, x3]
  | false =>
    rw [if_neg (by decide)]
    have x3 := fin3 []
    rw [List.append_nil] at x3 ⊢
    simp (maxSteps := 1000000) only [go_sem, acondK_bool, acB_merge, Nat.reduceLT, Nat.reduceLeDiff, Nat.reduceEqDiff, Nat.reduceAdd, Nat.reduceSub, Nat.reduceMul, Nat.reduceBEq, Nat.reduceBNe, Nat.reduceBneDiff, Nat.reduceBeqDiff, Int.reduceToNat, Int.reduceLE, Int.reduceLT, Int.reduceEq, Int.reduceNe, Int.reduceNeg, Int.reduceAdd, Int.reduceSub, ↓reduceIte, reduceCtorEq, x1, d8, x2, d1, d2, d3, d4, d7, d5, d6, x3]
theorem blkP_of (S : List Bytes) (l : List Stm) (hlen : l.length ≤ 4194303) (hg : ∀ x ∈ l, StmP S x) : BlkP S l := by
  intro A I hI
  have fin := fun l => em_finL (f := 29) rfl A S I l (v := .tuple []) rfl
  rw [k_call (c := C) (f := 29) rfl Tryz.func29 rfl (ok 29 (by kernel_rfl)) rfl Tryz.ntmps29 Tryz.results29 (by simp)]
  simp (maxSteps := 1000000) only [go_sem, acondK_bool, acB_merge, Nat.reduceLT, Nat.reduceLeDiff, Nat.reduceEqDiff, Nat.reduceAdd, Nat.reduceSub, Nat.reduceMul, Nat.reduceBEq, Nat.reduceBNe, Nat.reduceBneDiff, Nat.reduceBeqDiff, Int.reduceToNat, Int.reduceLE, Int.reduceLT, Int.reduceEq, Int.reduceNe, Int.reduceNeg, Int.reduceAdd, Int.reduceSub, ↓reduceIte, reduceCtorEq]
  refine loop_any (fun pre => [(8, .v (.d (.int .i64 (pre.length : Nat)))), (0, .v (.ptr A.objs.length 0)), (6, .v (.d (.slice (l.map Stm.row)))), (7, .v (.d (.int .i64 (l.length : Nat))))])
    (fun pre => emH A S (I ++ cdL S pre I.length)) (fun _ _ => some (.tuple [], emH A S (I ++ cdL S l I.length))) l rfl (by rw [cdL]; simp) rfl ?_
  intro pre suf hl ih2
  have hb : pre.length < 9223372036854775807 := by rw [hl] at hlen; simp at hlen; omega
  cases suf with
  | nil =>
    rw [List.append_nil] at hl
    subst hl
    have e4 : decide ((l.length : Int) < (l.length : Int)) = false := by simp
    have f1 := fin (cdL S l I.length)
    generalize I ++ cdL S l I.length = J at *
    simp (maxSteps := 1000000) only [go_sem, acondK_bool, acB_merge, Nat.reduceLT, Nat.reduceLeDiff, Nat.reduceEqDiff, Nat.reduceAdd, Nat.reduceSub, Nat.reduceMul, Nat.reduceBEq, Nat.reduceBNe, Nat.reduceBneDiff, Nat.reduceBeqDiff, Int.reduceToNat, Int.reduceLE, Int.reduceLT, Int.reduceEq, Int.reduceNe, Int.reduceNeg, Int.reduceAdd, Int.reduceSub, ↓reduceIte, reduceCtorEq, e4, f1]
  | cons x suf =>
    have hx : x ∈ l := by rw [hl]; simp
    have cl := cdL_len S pre I.length
    have hn : lnL pre + (lnS x + lnL suf) = lnL l := by rw [hl, lnL_append, lnL]
    have e1 := hg x hx A (I ++ cdL S pre I.length) (by simp; omega)
    have e2 := ih2 x suf rfl
    rw [List.length_append, List.length_cons, List.length_nil, cdL_snoc, ← List.append_assoc] at e2
    rw [List.length_append] at e1
    have e3 : (l.map Stm.row)[pre.length]? = some (Stm.row x) := by rw [hl]; exact map_mid
    have e4 : decide ((pre.length : Int) < (l.length : Int)) = true := by rw [hl]; simp; omega
    rw [Stm.row_eq] at e3
    generalize cdS S x (I.length + (cdL S pre I.length).length) = K at *
    generalize I ++ cdL S pre I.length = J at *
    generalize J ++ K = J2 at *
    simp (maxSteps := 1000000) only [go_sem, acondK_bool, acB_merge, Nat.reduceLT, Nat.reduceLeDiff, Nat.reduceEqDiff, Nat.reduceAdd, Nat.reduceSub, Nat.reduceMul, Nat.reduceBEq, Nat.reduceBNe, Nat.reduceBneDiff, Nat.reduceBeqDiff, Int.reduceToNat, Int.reduceLE, Int.reduceLT, Int.reduceEq, Int.reduceNe, Int.reduceNeg, Int.reduceAdd, Int.reduceSub, ↓reduceIte, reduceCtorEq, e3, e4, e1, e2, wrap_nat hb]
theorem stmP_all (S : List Bytes) (hS : S.length ≤ 4194303) : ∀ x : Stm, x.Ok → StmP S x := by
  intro x
  induction x using Stm.ind with
  | h op name max a b body els ihb ihe =>
    intro hok
    obtain ⟨f1, f2⟩ := stmFit2 hok
    exact stmEm S hS _ hok (blkP_of S _ f1 fun y hy => ihb y hy (Stm.Ok.bodyOk hok y hy)) (blkP_of S _ f2 fun y hy => ihe y hy (Stm.Ok.elsOk hok y hy))
theorem blkP_all (S : List Bytes) (hS : S.length ≤ 4194303) (l : List Stm) (hlen : l.length ≤ 4194303) (hok : ∀ x ∈ l, x.Ok) : BlkP S l :=
  blkP_of S l hlen fun x hx => stmP_all S hS x (hok x hx)
end Go.Proofs.YtjmghomnbmbjnaaGreat
