/- The law: Program joins the texts of its procedures. -/
import Derived.Test.YtfflfaedghfmdaaGreatDoorSeatL
import Derived.Test.YtfflfaedghfmdaaGreatDoorSeatA
set_option linter.unusedVariables false
set_option linter.unusedSimpArgs false
set_option linter.all false
set_option linter.deprecated false
set_option linter.all false
namespace Go.Proofs.YtfflfaedghfmdaaGreatDoor
open Go.Abs
attribute [local congr] ite_congr
set_option maxRecDepth 100000
theorem joinB_cc (sep x y : Bytes) (l : List Bytes) : joinB sep (x :: y :: l) = x ++ (sep ++ joinB sep (y :: l)) := by
  rw [joinB]
  simp
theorem joinB_snoc (sep x : Bytes) : ∀ l : List Bytes, l ≠ [] → joinB sep (l ++ [x]) = joinB sep l ++ sep ++ x
  | [], h => absurd rfl h
  | [y], _ => by simp [joinB]
  | y :: z :: l, _ => by
    have h := joinB_snoc sep x (z :: l) (by simp)
    simp only [List.cons_append] at h ⊢
    rw [joinB_cc, h, joinB_cc]
    simp only [List.append_assoc]
end Go.Proofs.YtfflfaedghfmdaaGreatDoor
set_option linter.all false
namespace Go.Proofs.YtfflfaedghfmdaaGreatDoor
open Go.Abs
attribute [local congr] ite_congr
set_option maxRecDepth 100000
theorem indentR (d : Nat) (hd : d ≤ 100) (A : AHeap) : acl C 64 [.d (.int .i64 (d : Nat))] A = some (.d (.str (indS d)), A) := by
  rw [k_call (c := C) (f := 64) rfl Tryz.func64 rfl (ok 64 (by kernel_rfl)) rfl Tryz.ntmps64 Tryz.results64 (by simp)]
  simp (maxSteps := 1000000) only [go_sem, acondK_bool, acB_merge, Nat.reduceLT, Nat.reduceLeDiff, Nat.reduceEqDiff, Nat.reduceAdd, Nat.reduceSub, Nat.reduceMul, Nat.reduceBEq, Nat.reduceBNe, Nat.reduceBneDiff, Nat.reduceBeqDiff, Int.reduceToNat, Int.reduceLE, Int.reduceLT, Int.reduceEq, Int.reduceNe, Int.reduceNeg, Int.reduceAdd, Int.reduceSub, ↓reduceIte, reduceCtorEq]
  refine loop_any (fun pre => [(3, .v (.d (.str (indS pre.length)))), (4, .v (.d (.int .i64 (pre.length : Nat)))), (0, .v (.d (.int .i64 (d : Nat))))]) (fun _ => A) (fun _ _ => some (.d (.str (indS d)), A)) (List.replicate d ()) rfl rfl rfl ?_
  intro pre suf hl ih
  have hle : pre.length + suf.length = d := by rw [← List.length_append, ← hl, List.length_replicate]
  cases suf with
  | nil =>
    have e1 : decide ((pre.length : Int) < (d : Int)) = false := by simp at hle; simp; omega
    have hd : pre.length = d := by simpa using hle
    rw [hd] at e1 ⊢
    simp (maxSteps := 1000000) only [go_sem, acondK_bool, acB_merge, Nat.reduceLT, Nat.reduceLeDiff, Nat.reduceEqDiff, Nat.reduceAdd, Nat.reduceSub, Nat.reduceMul, Nat.reduceBEq, Nat.reduceBNe, Nat.reduceBneDiff, Nat.reduceBeqDiff, Int.reduceToNat, Int.reduceLE, Int.reduceLT, Int.reduceEq, Int.reduceNe, Int.reduceNeg, Int.reduceAdd, Int.reduceSub, ↓reduceIte, reduceCtorEq, e1]
  | cons x suf =>
    have e1 : decide ((pre.length : Int) < (d : Int)) = true := by simp at hle; simp; omega
    have ih' := ih x suf rfl
    rw [List.length_append, List.length_cons, List.length_nil, Nat.zero_add, indS_succ] at ih'
    have c1 := sadd (a := indS pre.length) (b := [32, 32, 32, 32]) (by rw [indS_len]; simp at hle; simp; omega)
    have w2 : IntKind.i64.wrap ((pre.length : Int) + 1) = ((pre.length + 1 : Nat) : Int) := wrap_nat (by omega)
    generalize indS pre.length ++ [32, 32, 32, 32] = q1 at *
    generalize indS pre.length = q at *
    simp (maxSteps := 1000000) only [go_sem, acondK_bool, acB_merge, Nat.reduceLT, Nat.reduceLeDiff, Nat.reduceEqDiff, Nat.reduceAdd, Nat.reduceSub, Nat.reduceMul, Nat.reduceBEq, Nat.reduceBNe, Nat.reduceBneDiff, Nat.reduceBeqDiff, Int.reduceToNat, Int.reduceLE, Int.reduceLT, Int.reduceEq, Int.reduceNe, Int.reduceNeg, Int.reduceAdd, Int.reduceSub, ↓reduceIte, reduceCtorEq, e1, c1, w2, ih']
/-- a block at a depth, by the reference -/
def BlkR (l : List Stm) (d : Nat) : Prop := ∀ A : AHeap, acl C 17 [.d (.slice (l.map Stm.row)), .d (.int .i64 (d : Nat))] A = some (.d (.str (ssS l d)), A)
set_option maxHeartbeats 2000000 in
theorem stmt1R (op : Int) (h : op = 1) (name : Bytes) (max : Int) (a b : E) (body els : List Stm) (d : Nat) (hd : d ≤ 20) (hn : name.length ≤ 1048576) (ha : a.Ok) (ca : chkE a 1 = 0) (A : AHeap) : acl C 36 [Stm.av (.mk op name max a b body els), .d (.int .i64 (d : Nat))] A = some (.d (.str (stS (.mk op name max a b body els) d)), A) := by
  have hi := indentR d (by omega) A
  have ea := textR a ha 1 ca (by decide) A
  have hil : (indS d).length ≤ 400 := by rw [indS_len]; omega
  have hal := textS_small ha ca (by decide) (by decide)
  have q1 : decide (op = 1) = true := decT h
  have q2 : decide (op = 2) = false := decF (by omega)
  have q3 : decide (op = 3) = false := decF (by omega)
  have q4 : decide (op = 4) = false := decF (by omega)
  have q7 : decide (op = 7) = false := decF (by omega)
  have q8 : decide (op = 8) = false := decF (by omega)
  have q6 : decide (op = 6) = false := decF (by omega)
  rw [stS, if_pos h]
  unfold lineS
  generalize textS a = ta at *
  generalize indS d = I at *
  have c1 := sadd (a := I) (b := [108, 101, 116, 32]) (by (try simp only [List.length_append, List.length_cons, List.length_nil]); omega)
  have c2 := sadd (a := I ++ [108, 101, 116, 32]) (b := name) (by (try simp only [List.length_append, List.length_cons, List.length_nil]); omega)
  have c3 := sadd (a := I ++ [108, 101, 116, 32] ++ name) (b := [32, 61, 32]) (by (try simp only [List.length_append, List.length_cons, List.length_nil]); omega)
  have c4 := sadd (a := I ++ [108, 101, 116, 32] ++ name ++ [32, 61, 32]) (b := ta) (by (try simp only [List.length_append, List.length_cons, List.length_nil]); omega)
  have c5 := sadd (a := I ++ [108, 101, 116, 32] ++ name ++ [32, 61, 32] ++ ta) (b := [59, 10]) (by (try simp only [List.length_append, List.length_cons, List.length_nil]); omega)
  have hq : I ++ [108, 101, 116, 32] ++ name ++ [32, 61, 32] ++ ta ++ [59, 10] = I ++ ([[108, 101, 116, 32], name, [32, 61, 32], ta, [59]].flatten ++ [10]) := by simp
  rw [hq] at c5
  generalize I ++ ([[108, 101, 116, 32], name, [32, 61, 32], ta, [59]].flatten ++ [10]) = R at *
  generalize I ++ [108, 101, 116, 32] ++ name ++ [32, 61, 32] ++ ta = s4 at *
  generalize I ++ [108, 101, 116, 32] ++ name ++ [32, 61, 32] = s3 at *
  generalize I ++ [108, 101, 116, 32] ++ name = s2 at *
  generalize I ++ [108, 101, 116, 32] = s1 at *
  rw [k_call (c := C) (f := 36) rfl Tryz.func36 rfl (ok 36 (by kernel_rfl)) rfl Tryz.ntmps36 Tryz.results36 (by simp)]
  simp (maxSteps := 1000000) only [go_sem, acondK_bool, acB_merge, Nat.reduceLT, Nat.reduceLeDiff, Nat.reduceEqDiff, Nat.reduceAdd, Nat.reduceSub, Nat.reduceMul, Nat.reduceBEq, Nat.reduceBNe, Nat.reduceBneDiff, Nat.reduceBeqDiff, Int.reduceToNat, Int.reduceLE, Int.reduceLT, Int.reduceEq, Int.reduceNe, Int.reduceNeg, Int.reduceAdd, Int.reduceSub, ↓reduceIte, reduceCtorEq, hi, ea, q1, q2, q3, q4, q7, q8, q6, c1, c2, c3, c4, c5, k_drawn_q]
set_option maxHeartbeats 2000000 in
theorem stmt2R (op : Int) (h : op = 2) (name : Bytes) (max : Int) (a b : E) (body els : List Stm) (d : Nat) (hd : d ≤ 20) (hn : name.length ≤ 1048576) (ha : a.Ok) (ca : chkE a 1 = 0) (A : AHeap) : acl C 36 [Stm.av (.mk op name max a b body els), .d (.int .i64 (d : Nat))] A = some (.d (.str (stS (.mk op name max a b body els) d)), A) := by
  have hi := indentR d (by omega) A
  have ea := textR a ha 1 ca (by decide) A
  have hil : (indS d).length ≤ 400 := by rw [indS_len]; omega
  have hal := textS_small ha ca (by decide) (by decide)
  have q1 : decide (op = 1) = false := decF (by omega)
  have q2 : decide (op = 2) = true := decT h
  have q3 : decide (op = 3) = false := decF (by omega)
  have q4 : decide (op = 4) = false := decF (by omega)
  have q7 : decide (op = 7) = false := decF (by omega)
  have q8 : decide (op = 8) = false := decF (by omega)
  have q6 : decide (op = 6) = false := decF (by omega)
  rw [stS, if_neg (by omega), if_pos h]
  unfold lineS
  generalize textS a = ta at *
  generalize indS d = I at *
  have c1 := sadd (a := I) (b := name) (by (try simp only [List.length_append, List.length_cons, List.length_nil]); omega)
  have c2 := sadd (a := I ++ name) (b := [32, 61, 32]) (by (try simp only [List.length_append, List.length_cons, List.length_nil]); omega)
  have c3 := sadd (a := I ++ name ++ [32, 61, 32]) (b := ta) (by (try simp only [List.length_append, List.length_cons, List.length_nil]); omega)
  have c4 := sadd (a := I ++ name ++ [32, 61, 32] ++ ta) (b := [59, 10]) (by (try simp only [List.length_append, List.length_cons, List.length_nil]); omega)
  have hq : I ++ name ++ [32, 61, 32] ++ ta ++ [59, 10] = I ++ ([name, [32, 61, 32], ta, [59]].flatten ++ [10]) := by simp
  rw [hq] at c4
  generalize I ++ ([name, [32, 61, 32], ta, [59]].flatten ++ [10]) = R at *
  generalize I ++ name ++ [32, 61, 32] ++ ta = s3 at *
  generalize I ++ name ++ [32, 61, 32] = s2 at *
  generalize I ++ name = s1 at *
  rw [k_call (c := C) (f := 36) rfl Tryz.func36 rfl (ok 36 (by kernel_rfl)) rfl Tryz.ntmps36 Tryz.results36 (by simp)]
  simp (maxSteps := 1000000) only [go_sem, acondK_bool, acB_merge, Nat.reduceLT, Nat.reduceLeDiff, Nat.reduceEqDiff, Nat.reduceAdd, Nat.reduceSub, Nat.reduceMul, Nat.reduceBEq, Nat.reduceBNe, Nat.reduceBneDiff, Nat.reduceBeqDiff, Int.reduceToNat, Int.reduceLE, Int.reduceLT, Int.reduceEq, Int.reduceNe, Int.reduceNeg, Int.reduceAdd, Int.reduceSub, ↓reduceIte, reduceCtorEq, hi, ea, q1, q2, q3, q4, q7, q8, q6, c1, c2, c3, c4, k_drawn_q]
set_option maxHeartbeats 2000000 in
theorem stmt3R (op : Int) (h : op = 3) (name : Bytes) (max : Int) (a b : E) (body els : List Stm) (d : Nat) (hd : d ≤ 20) (ha : a.Ok) (ca : chkE a 1 = 0) (hb : b.Ok) (cb : chkE b 1 = 0) (A : AHeap) : acl C 36 [Stm.av (.mk op name max a b body els), .d (.int .i64 (d : Nat))] A = some (.d (.str (stS (.mk op name max a b body els) d)), A) := by
  have hi := indentR d (by omega) A
  have ea := textR a ha 1 ca (by decide) A
  have eb := textR b hb 1 cb (by decide) A
  have hil : (indS d).length ≤ 400 := by rw [indS_len]; omega
  have hal := textS_small ha ca (by decide) (by decide)
  have hbl := textS_small hb cb (by decide) (by decide)
  have q1 : decide (op = 1) = false := decF (by omega)
  have q2 : decide (op = 2) = false := decF (by omega)
  have q3 : decide (op = 3) = true := decT h
  have q4 : decide (op = 4) = false := decF (by omega)
  have q7 : decide (op = 7) = false := decF (by omega)
  have q8 : decide (op = 8) = false := decF (by omega)
  have q6 : decide (op = 6) = false := decF (by omega)
  rw [stS, if_neg (by omega), if_neg (by omega), if_pos h]
  unfold lineS
  generalize textS a = ta at *
  generalize textS b = tb at *
  generalize indS d = I at *
  have c1 := sadd (a := I) (b := [112, 117, 116, 32]) (by (try simp only [List.length_append, List.length_cons, List.length_nil]); omega)
  have c2 := sadd (a := I ++ [112, 117, 116, 32]) (b := ta) (by (try simp only [List.length_append, List.length_cons, List.length_nil]); omega)
  have c3 := sadd (a := I ++ [112, 117, 116, 32] ++ ta) (b := [32, 61, 32]) (by (try simp only [List.length_append, List.length_cons, List.length_nil]); omega)
  have c4 := sadd (a := I ++ [112, 117, 116, 32] ++ ta ++ [32, 61, 32]) (b := tb) (by (try simp only [List.length_append, List.length_cons, List.length_nil]); omega)
  have c5 := sadd (a := I ++ [112, 117, 116, 32] ++ ta ++ [32, 61, 32] ++ tb) (b := [59, 10]) (by (try simp only [List.length_append, List.length_cons, List.length_nil]); omega)
  have hq : I ++ [112, 117, 116, 32] ++ ta ++ [32, 61, 32] ++ tb ++ [59, 10] = I ++ ([[112, 117, 116, 32], ta, [32, 61, 32], tb, [59]].flatten ++ [10]) := by simp
  rw [hq] at c5
  generalize I ++ ([[112, 117, 116, 32], ta, [32, 61, 32], tb, [59]].flatten ++ [10]) = R at *
  generalize I ++ [112, 117, 116, 32] ++ ta ++ [32, 61, 32] ++ tb = s4 at *
  generalize I ++ [112, 117, 116, 32] ++ ta ++ [32, 61, 32] = s3 at *
  generalize I ++ [112, 117, 116, 32] ++ ta = s2 at *
  generalize I ++ [112, 117, 116, 32] = s1 at *
  rw [k_call (c := C) (f := 36) rfl Tryz.func36 rfl (ok 36 (by kernel_rfl)) rfl Tryz.ntmps36 Tryz.results36 (by simp)]
  simp (maxSteps := 1000000) only [go_sem, acondK_bool, acB_merge, Nat.reduceLT, Nat.reduceLeDiff, Nat.reduceEqDiff, Nat.reduceAdd, Nat.reduceSub, Nat.reduceMul, Nat.reduceBEq, Nat.reduceBNe, Nat.reduceBneDiff, Nat.reduceBeqDiff, Int.reduceToNat, Int.reduceLE, Int.reduceLT, Int.reduceEq, Int.reduceNe, Int.reduceNeg, Int.reduceAdd, Int.reduceSub, ↓reduceIte, reduceCtorEq, hi, ea, eb, q1, q2, q3, q4, q7, q8, q6, c1, c2, c3, c4, c5, k_drawn_q]
set_option maxHeartbeats 2000000 in
theorem stmt4R (op : Int) (h : op = 4) (name : Bytes) (max : Int) (a b : E) (body els : List Stm) (d : Nat) (hd : d ≤ 20) (ha : a.Ok) (ca : chkE a 1 = 0) (A : AHeap) : acl C 36 [Stm.av (.mk op name max a b body els), .d (.int .i64 (d : Nat))] A = some (.d (.str (stS (.mk op name max a b body els) d)), A) := by
  have hi := indentR d (by omega) A
  have ea := textR a ha 1 ca (by decide) A
  have hil : (indS d).length ≤ 400 := by rw [indS_len]; omega
  have hal := textS_small ha ca (by decide) (by decide)
  have q1 : decide (op = 1) = false := decF (by omega)
  have q2 : decide (op = 2) = false := decF (by omega)
  have q3 : decide (op = 3) = false := decF (by omega)
  have q4 : decide (op = 4) = true := decT h
  have q7 : decide (op = 7) = false := decF (by omega)
  have q8 : decide (op = 8) = false := decF (by omega)
  have q6 : decide (op = 6) = false := decF (by omega)
  rw [stS, if_neg (by omega), if_neg (by omega), if_neg (by omega), if_pos h]
  unfold lineS
  generalize textS a = ta at *
  generalize indS d = I at *
  have c1 := sadd (a := I) (b := [100, 101, 108, 101, 116, 101, 32]) (by (try simp only [List.length_append, List.length_cons, List.length_nil]); omega)
  have c2 := sadd (a := I ++ [100, 101, 108, 101, 116, 101, 32]) (b := ta) (by (try simp only [List.length_append, List.length_cons, List.length_nil]); omega)
  have c3 := sadd (a := I ++ [100, 101, 108, 101, 116, 101, 32] ++ ta) (b := [59, 10]) (by (try simp only [List.length_append, List.length_cons, List.length_nil]); omega)
  have hq : I ++ [100, 101, 108, 101, 116, 101, 32] ++ ta ++ [59, 10] = I ++ ([[100, 101, 108, 101, 116, 101, 32], ta, [59]].flatten ++ [10]) := by simp
  rw [hq] at c3
  generalize I ++ ([[100, 101, 108, 101, 116, 101, 32], ta, [59]].flatten ++ [10]) = R at *
  generalize I ++ [100, 101, 108, 101, 116, 101, 32] ++ ta = s2 at *
  generalize I ++ [100, 101, 108, 101, 116, 101, 32] = s1 at *
  rw [k_call (c := C) (f := 36) rfl Tryz.func36 rfl (ok 36 (by kernel_rfl)) rfl Tryz.ntmps36 Tryz.results36 (by simp)]
  simp (maxSteps := 1000000) only [go_sem, acondK_bool, acB_merge, Nat.reduceLT, Nat.reduceLeDiff, Nat.reduceEqDiff, Nat.reduceAdd, Nat.reduceSub, Nat.reduceMul, Nat.reduceBEq, Nat.reduceBNe, Nat.reduceBneDiff, Nat.reduceBeqDiff, Int.reduceToNat, Int.reduceLE, Int.reduceLT, Int.reduceEq, Int.reduceNe, Int.reduceNeg, Int.reduceAdd, Int.reduceSub, ↓reduceIte, reduceCtorEq, hi, ea, q1, q2, q3, q4, q7, q8, q6, c1, c2, c3]
set_option maxHeartbeats 2000000 in
theorem stmt7R (op : Int) (h : op = 7) (name : Bytes) (max : Int) (a b : E) (body els : List Stm) (d : Nat) (hd : d ≤ 20) (ha : a.Ok) (ca : chkE a 1 = 0) (A : AHeap) : acl C 36 [Stm.av (.mk op name max a b body els), .d (.int .i64 (d : Nat))] A = some (.d (.str (stS (.mk op name max a b body els) d)), A) := by
  have hi := indentR d (by omega) A
  have ea := textR a ha 1 ca (by decide) A
  have hil : (indS d).length ≤ 400 := by rw [indS_len]; omega
  have hal := textS_small ha ca (by decide) (by decide)
  have q1 : decide (op = 1) = false := decF (by omega)
  have q2 : decide (op = 2) = false := decF (by omega)
  have q3 : decide (op = 3) = false := decF (by omega)
  have q4 : decide (op = 4) = false := decF (by omega)
  have q7 : decide (op = 7) = true := decT h
  have q8 : decide (op = 8) = false := decF (by omega)
  have q6 : decide (op = 6) = false := decF (by omega)
  rw [stS, if_neg (by omega), if_neg (by omega), if_neg (by omega), if_neg (by omega), if_neg (by omega), if_neg (by omega), if_pos h]
  unfold lineS
  generalize textS a = ta at *
  generalize indS d = I at *
  have c1 := sadd (a := I) (b := [101, 109, 105, 116, 32]) (by (try simp only [List.length_append, List.length_cons, List.length_nil]); omega)
  have c2 := sadd (a := I ++ [101, 109, 105, 116, 32]) (b := ta) (by (try simp only [List.length_append, List.length_cons, List.length_nil]); omega)
  have c3 := sadd (a := I ++ [101, 109, 105, 116, 32] ++ ta) (b := [59, 10]) (by (try simp only [List.length_append, List.length_cons, List.length_nil]); omega)
  have hq : I ++ [101, 109, 105, 116, 32] ++ ta ++ [59, 10] = I ++ ([[101, 109, 105, 116, 32], ta, [59]].flatten ++ [10]) := by simp
  rw [hq] at c3
  generalize I ++ ([[101, 109, 105, 116, 32], ta, [59]].flatten ++ [10]) = R at *
  generalize I ++ [101, 109, 105, 116, 32] ++ ta = s2 at *
  generalize I ++ [101, 109, 105, 116, 32] = s1 at *
  rw [k_call (c := C) (f := 36) rfl Tryz.func36 rfl (ok 36 (by kernel_rfl)) rfl Tryz.ntmps36 Tryz.results36 (by simp)]
  simp (maxSteps := 1000000) only [go_sem, acondK_bool, acB_merge, Nat.reduceLT, Nat.reduceLeDiff, Nat.reduceEqDiff, Nat.reduceAdd, Nat.reduceSub, Nat.reduceMul, Nat.reduceBEq, Nat.reduceBNe, Nat.reduceBneDiff, Nat.reduceBeqDiff, Int.reduceToNat, Int.reduceLE, Int.reduceLT, Int.reduceEq, Int.reduceNe, Int.reduceNeg, Int.reduceAdd, Int.reduceSub, ↓reduceIte, reduceCtorEq, hi, ea, q1, q2, q3, q4, q7, q8, q6, c1, c2, c3]
set_option maxHeartbeats 2000000 in
theorem stmt8R (op : Int) (h : op = 8) (name : Bytes) (max : Int) (a b : E) (body els : List Stm) (d : Nat) (hd : d ≤ 20) (hm : i64 max) (A : AHeap) : acl C 36 [Stm.av (.mk op name max a b body els), .d (.int .i64 (d : Nat))] A = some (.d (.str (stS (.mk op name max a b body els) d)), A) := by
  have hi := indentR d (by omega) A
  have em := formatR max hm A
  have hil : (indS d).length ≤ 400 := by rw [indS_len]; omega
  have hml := itoa_len max hm
  have q1 : decide (op = 1) = false := decF (by omega)
  have q2 : decide (op = 2) = false := decF (by omega)
  have q3 : decide (op = 3) = false := decF (by omega)
  have q4 : decide (op = 4) = false := decF (by omega)
  have q7 : decide (op = 7) = false := decF (by omega)
  have q8 : decide (op = 8) = true := decT h
  have q6 : decide (op = 6) = false := decF (by omega)
  rw [stS, if_neg (by omega), if_neg (by omega), if_neg (by omega), if_neg (by omega), if_neg (by omega), if_neg (by omega), if_neg (by omega)]
  unfold lineS
  generalize Lib.itoa max = tm at *
  generalize indS d = I at *
  have c1 := sadd (a := I) (b := [97, 98, 111, 114, 116, 32]) (by (try simp only [List.length_append, List.length_cons, List.length_nil]); omega)
  have c2 := sadd (a := I ++ [97, 98, 111, 114, 116, 32]) (b := tm) (by (try simp only [List.length_append, List.length_cons, List.length_nil]); omega)
  have c3 := sadd (a := I ++ [97, 98, 111, 114, 116, 32] ++ tm) (b := [59, 10]) (by (try simp only [List.length_append, List.length_cons, List.length_nil]); omega)
  have hq : I ++ [97, 98, 111, 114, 116, 32] ++ tm ++ [59, 10] = I ++ ([[97, 98, 111, 114, 116, 32], tm, [59]].flatten ++ [10]) := by simp
  rw [hq] at c3
  generalize I ++ ([[97, 98, 111, 114, 116, 32], tm, [59]].flatten ++ [10]) = R at *
  generalize I ++ [97, 98, 111, 114, 116, 32] ++ tm = s2 at *
  generalize I ++ [97, 98, 111, 114, 116, 32] = s1 at *
  rw [k_call (c := C) (f := 36) rfl Tryz.func36 rfl (ok 36 (by kernel_rfl)) rfl Tryz.ntmps36 Tryz.results36 (by simp)]
  simp (maxSteps := 1000000) only [go_sem, acondK_bool, acB_merge, Nat.reduceLT, Nat.reduceLeDiff, Nat.reduceEqDiff, Nat.reduceAdd, Nat.reduceSub, Nat.reduceMul, Nat.reduceBEq, Nat.reduceBNe, Nat.reduceBneDiff, Nat.reduceBeqDiff, Int.reduceToNat, Int.reduceLE, Int.reduceLT, Int.reduceEq, Int.reduceNe, Int.reduceNeg, Int.reduceAdd, Int.reduceSub, ↓reduceIte, reduceCtorEq, hi, em, q1, q2, q3, q4, q7, q8, q6, c1, c2, c3]
set_option maxHeartbeats 2000000 in
theorem stmt6R (op : Int) (h : op = 6) (name : Bytes) (max : Int) (a b : E) (body els : List Stm) (d : Nat) (hd : d ≤ 20) (hn : name.length ≤ 1048576) (ha : a.Ok) (ca : chkE a 1 = 0) (hb : b.Ok) (cb : chkE b 1 = 0) (hm : i64 max) (hB : BlkR body (d + 1)) (hBl : (ssS body (d + 1)).length ≤ 4000000) (A : AHeap) : acl C 36 [Stm.av (.mk op name max a b body els), .d (.int .i64 (d : Nat))] A = some (.d (.str (stS (.mk op name max a b body els) d)), A) := by
  have hi := indentR d (by omega) A
  have ea := textR a ha 1 ca (by decide) A
  have eb := textR b hb 1 cb (by decide) A
  have em := formatR max hm A
  have eB := hB A
  have wd : IntKind.i64.wrap ((d : Int) + 1) = ((d + 1 : Nat) : Int) := by rw [wrap_in] <;> omega
  have hil : (indS d).length ≤ 400 := by rw [indS_len]; omega
  have hal := textS_small ha ca (by decide) (by decide)
  have hbl := textS_small hb cb (by decide) (by decide)
  have hml := itoa_len max hm
  have q1 : decide (op = 1) = false := decF (by omega)
  have q2 : decide (op = 2) = false := decF (by omega)
  have q3 : decide (op = 3) = false := decF (by omega)
  have q4 : decide (op = 4) = false := decF (by omega)
  have q7 : decide (op = 7) = false := decF (by omega)
  have q8 : decide (op = 8) = false := decF (by omega)
  have q6 : decide (op = 6) = true := decT h
  rw [stS, if_neg (by omega), if_neg (by omega), if_neg (by omega), if_neg (by omega), if_neg (by omega), if_pos h]
  unfold lineS
  generalize textS a = ta at *
  generalize textS b = tb at *
  generalize Lib.itoa max = tm at *
  generalize ssS body (d + 1) = tbd at *
  generalize indS d = I at *
  have c1 := sadd (a := I) (b := [102, 111, 114, 32]) (by (try simp only [List.length_append, List.length_cons, List.length_nil]); omega)
  have c2 := sadd (a := I ++ [102, 111, 114, 32]) (b := name) (by (try simp only [List.length_append, List.length_cons, List.length_nil]); omega)
  have c3 := sadd (a := I ++ [102, 111, 114, 32] ++ name) (b := [32, 61, 32]) (by (try simp only [List.length_append, List.length_cons, List.length_nil]); omega)
  have c4 := sadd (a := I ++ [102, 111, 114, 32] ++ name ++ [32, 61, 32]) (b := ta) (by (try simp only [List.length_append, List.length_cons, List.length_nil]); omega)
  have c5 := sadd (a := I ++ [102, 111, 114, 32] ++ name ++ [32, 61, 32] ++ ta) (b := [32, 116, 111, 32]) (by (try simp only [List.length_append, List.length_cons, List.length_nil]); omega)
  have c6 := sadd (a := I ++ [102, 111, 114, 32] ++ name ++ [32, 61, 32] ++ ta ++ [32, 116, 111, 32]) (b := tb) (by (try simp only [List.length_append, List.length_cons, List.length_nil]); omega)
  have c7 := sadd (a := I ++ [102, 111, 114, 32] ++ name ++ [32, 61, 32] ++ ta ++ [32, 116, 111, 32] ++ tb) (b := [32, 109, 97, 120, 32]) (by (try simp only [List.length_append, List.length_cons, List.length_nil]); omega)
  have c8 := sadd (a := I ++ [102, 111, 114, 32] ++ name ++ [32, 61, 32] ++ ta ++ [32, 116, 111, 32] ++ tb ++ [32, 109, 97, 120, 32]) (b := tm) (by (try simp only [List.length_append, List.length_cons, List.length_nil]); omega)
  have c9 := sadd (a := I ++ [102, 111, 114, 32] ++ name ++ [32, 61, 32] ++ ta ++ [32, 116, 111, 32] ++ tb ++ [32, 109, 97, 120, 32] ++ tm) (b := [32, 123, 10]) (by (try simp only [List.length_append, List.length_cons, List.length_nil]); omega)
  have c10 := sadd (a := I ++ [102, 111, 114, 32] ++ name ++ [32, 61, 32] ++ ta ++ [32, 116, 111, 32] ++ tb ++ [32, 109, 97, 120, 32] ++ tm ++ [32, 123, 10]) (b := tbd) (by (try simp only [List.length_append, List.length_cons, List.length_nil]); omega)
  have c11 := sadd (a := I ++ [102, 111, 114, 32] ++ name ++ [32, 61, 32] ++ ta ++ [32, 116, 111, 32] ++ tb ++ [32, 109, 97, 120, 32] ++ tm ++ [32, 123, 10] ++ tbd) (b := I) (by (try simp only [List.length_append, List.length_cons, List.length_nil]); omega)
  have c12 := sadd (a := I ++ [102, 111, 114, 32] ++ name ++ [32, 61, 32] ++ ta ++ [32, 116, 111, 32] ++ tb ++ [32, 109, 97, 120, 32] ++ tm ++ [32, 123, 10] ++ tbd ++ I) (b := [125, 10]) (by (try simp only [List.length_append, List.length_cons, List.length_nil]); omega)
  have hq : I ++ [102, 111, 114, 32] ++ name ++ [32, 61, 32] ++ ta ++ [32, 116, 111, 32] ++ tb ++ [32, 109, 97, 120, 32] ++ tm ++ [32, 123, 10] ++ tbd ++ I ++ [125, 10] = I ++ ([[102, 111, 114, 32], name, [32, 61, 32], ta, [32, 116, 111, 32], tb, [32, 109, 97, 120, 32], tm, [32, 123]].flatten ++ [10]) ++ (tbd ++ (I ++ ([[125]].flatten ++ [10]))) := by simp
  rw [hq] at c12
  generalize I ++ ([[102, 111, 114, 32], name, [32, 61, 32], ta, [32, 116, 111, 32], tb, [32, 109, 97, 120, 32], tm, [32, 123]].flatten ++ [10]) ++ (tbd ++ (I ++ ([[125]].flatten ++ [10]))) = R at *
  generalize I ++ [102, 111, 114, 32] ++ name ++ [32, 61, 32] ++ ta ++ [32, 116, 111, 32] ++ tb ++ [32, 109, 97, 120, 32] ++ tm ++ [32, 123, 10] ++ tbd ++ I = s11 at *
  generalize I ++ [102, 111, 114, 32] ++ name ++ [32, 61, 32] ++ ta ++ [32, 116, 111, 32] ++ tb ++ [32, 109, 97, 120, 32] ++ tm ++ [32, 123, 10] ++ tbd = s10 at *
  generalize I ++ [102, 111, 114, 32] ++ name ++ [32, 61, 32] ++ ta ++ [32, 116, 111, 32] ++ tb ++ [32, 109, 97, 120, 32] ++ tm ++ [32, 123, 10] = s9 at *
  generalize I ++ [102, 111, 114, 32] ++ name ++ [32, 61, 32] ++ ta ++ [32, 116, 111, 32] ++ tb ++ [32, 109, 97, 120, 32] ++ tm = s8 at *
  generalize I ++ [102, 111, 114, 32] ++ name ++ [32, 61, 32] ++ ta ++ [32, 116, 111, 32] ++ tb ++ [32, 109, 97, 120, 32] = s7 at *
  generalize I ++ [102, 111, 114, 32] ++ name ++ [32, 61, 32] ++ ta ++ [32, 116, 111, 32] ++ tb = s6 at *
  generalize I ++ [102, 111, 114, 32] ++ name ++ [32, 61, 32] ++ ta ++ [32, 116, 111, 32] = s5 at *
  generalize I ++ [102, 111, 114, 32] ++ name ++ [32, 61, 32] ++ ta = s4 at *
  generalize I ++ [102, 111, 114, 32] ++ name ++ [32, 61, 32] = s3 at *
  generalize I ++ [102, 111, 114, 32] ++ name = s2 at *
  generalize I ++ [102, 111, 114, 32] = s1 at *
  rw [k_call (c := C) (f := 36) rfl Tryz.func36 rfl (ok 36 (by kernel_rfl)) rfl Tryz.ntmps36 Tryz.results36 (by simp)]
  simp (maxSteps := 1000000) only [go_sem, acondK_bool, acB_merge, Nat.reduceLT, Nat.reduceLeDiff, Nat.reduceEqDiff, Nat.reduceAdd, Nat.reduceSub, Nat.reduceMul, Nat.reduceBEq, Nat.reduceBNe, Nat.reduceBneDiff, Nat.reduceBeqDiff, Int.reduceToNat, Int.reduceLE, Int.reduceLT, Int.reduceEq, Int.reduceNe, Int.reduceNeg, Int.reduceAdd, Int.reduceSub, ↓reduceIte, reduceCtorEq, hi, ea, eb, em, eB, wd, q1, q2, q3, q4, q7, q8, q6, c1, c2, c3, c4, c5, c6, c7, c8, c9, c10, c11, c12, k_drawn_q]
set_option maxHeartbeats 2000000 in
theorem stmt5R (op : Int) (h : op = 5) (name : Bytes) (max : Int) (a b : E) (body els : List Stm) (d : Nat) (hd : d ≤ 20) (ha : a.Ok) (ca : chkE a 1 = 0) (hB : BlkR body (d + 1)) (hBl : (ssS body (d + 1)).length ≤ 4000000) (hE : BlkR els (d + 1)) (hEl : (ssS els (d + 1)).length ≤ 4000000) (A : AHeap) : acl C 36 [Stm.av (.mk op name max a b body els), .d (.int .i64 (d : Nat))] A = some (.d (.str (stS (.mk op name max a b body els) d)), A) := by
  have hi := indentR d (by omega) A
  have ea := textR a ha 1 ca (by decide) A
  have eB := hB A
  have wd : IntKind.i64.wrap ((d : Int) + 1) = ((d + 1 : Nat) : Int) := by rw [wrap_in] <;> omega
  have eE := hE A
  have hil : (indS d).length ≤ 400 := by rw [indS_len]; omega
  have hal := textS_small ha ca (by decide) (by decide)
  have q1 : decide (op = 1) = false := decF (by omega)
  have q2 : decide (op = 2) = false := decF (by omega)
  have q3 : decide (op = 3) = false := decF (by omega)
  have q4 : decide (op = 4) = false := decF (by omega)
  have q7 : decide (op = 7) = false := decF (by omega)
  have q8 : decide (op = 8) = false := decF (by omega)
  have q6 : decide (op = 6) = false := decF (by omega)
  rw [stS, if_neg (by omega), if_neg (by omega), if_neg (by omega), if_neg (by omega), if_pos h]
  unfold lineS
  generalize textS a = ta at *
  generalize ssS body (d + 1) = tbd at *
  generalize ssS els (d + 1) = tel at *
  generalize indS d = I at *
  have c1 := sadd (a := I) (b := [105, 102, 32]) (by (try simp only [List.length_append, List.length_cons, List.length_nil]); omega)
  have c2 := sadd (a := I ++ [105, 102, 32]) (b := ta) (by (try simp only [List.length_append, List.length_cons, List.length_nil]); omega)
  have c3 := sadd (a := I ++ [105, 102, 32] ++ ta) (b := [32, 123, 10]) (by (try simp only [List.length_append, List.length_cons, List.length_nil]); omega)
  have c4 := sadd (a := I ++ [105, 102, 32] ++ ta ++ [32, 123, 10]) (b := tbd) (by (try simp only [List.length_append, List.length_cons, List.length_nil]); omega)
  have c5 := sadd (a := I ++ [105, 102, 32] ++ ta ++ [32, 123, 10] ++ tbd) (b := I) (by (try simp only [List.length_append, List.length_cons, List.length_nil]); omega)
  have c6 := sadd (a := I ++ [105, 102, 32] ++ ta ++ [32, 123, 10] ++ tbd ++ I) (b := [125]) (by (try simp only [List.length_append, List.length_cons, List.length_nil]); omega)
  cases hc : decide (0 < (els.length : Int)) with
  | true =>
    rw [if_pos rfl]
    have e1 := sadd (a := I ++ [105, 102, 32] ++ ta ++ [32, 123, 10] ++ tbd ++ I ++ [125]) (b := [32, 101, 108, 115, 101, 32, 123, 10]) (by (try simp only [List.length_append, List.length_cons, List.length_nil]); omega)
    have e2 := sadd (a := I ++ [105, 102, 32] ++ ta ++ [32, 123, 10] ++ tbd ++ I ++ [125] ++ [32, 101, 108, 115, 101, 32, 123, 10]) (b := tel) (by (try simp only [List.length_append, List.length_cons, List.length_nil]); omega)
    have e3 := sadd (a := I ++ [105, 102, 32] ++ ta ++ [32, 123, 10] ++ tbd ++ I ++ [125] ++ [32, 101, 108, 115, 101, 32, 123, 10] ++ tel) (b := I) (by (try simp only [List.length_append, List.length_cons, List.length_nil]); omega)
    have e4 := sadd (a := I ++ [105, 102, 32] ++ ta ++ [32, 123, 10] ++ tbd ++ I ++ [125] ++ [32, 101, 108, 115, 101, 32, 123, 10] ++ tel ++ I) (b := [125]) (by (try simp only [List.length_append, List.length_cons, List.length_nil]); omega)
    have f1 := sadd (a := I ++ [105, 102, 32] ++ ta ++ [32, 123, 10] ++ tbd ++ I ++ [125] ++ [32, 101, 108, 115, 101, 32, 123, 10] ++ tel ++ I ++ [125]) (b := [10]) (by (try simp only [List.length_append, List.length_cons, List.length_nil]); omega)
    have hq : I ++ [105, 102, 32] ++ ta ++ [32, 123, 10] ++ tbd ++ I ++ [125] ++ [32, 101, 108, 115, 101, 32, 123, 10] ++ tel ++ I ++ [125] ++ [10] = I ++ ([[105, 102, 32], ta, [32, 123]].flatten ++ [10]) ++ (tbd ++ (I ++ ([[125, 32, 101, 108, 115, 101, 32, 123]].flatten ++ [10]) ++ tel ++ (I ++ ([[125]].flatten ++ [10])))) := by simp
    rw [hq] at f1
    generalize I ++ ([[105, 102, 32], ta, [32, 123]].flatten ++ [10]) ++ (tbd ++ (I ++ ([[125, 32, 101, 108, 115, 101, 32, 123]].flatten ++ [10]) ++ tel ++ (I ++ ([[125]].flatten ++ [10])))) = R at *
    generalize I ++ [105, 102, 32] ++ ta ++ [32, 123, 10] ++ tbd ++ I ++ [125] ++ [32, 101, 108, 115, 101, 32, 123, 10] ++ tel ++ I ++ [125] = r4 at *
    generalize I ++ [105, 102, 32] ++ ta ++ [32, 123, 10] ++ tbd ++ I ++ [125] ++ [32, 101, 108, 115, 101, 32, 123, 10] ++ tel ++ I = r3 at *
    generalize I ++ [105, 102, 32] ++ ta ++ [32, 123, 10] ++ tbd ++ I ++ [125] ++ [32, 101, 108, 115, 101, 32, 123, 10] ++ tel = r2 at *
    generalize I ++ [105, 102, 32] ++ ta ++ [32, 123, 10] ++ tbd ++ I ++ [125] ++ [32, 101, 108, 115, 101, 32, 123, 10] = r1 at *
    generalize I ++ [105, 102, 32] ++ ta ++ [32, 123, 10] ++ tbd ++ I ++ [125] = s6 at *
    generalize I ++ [105, 102, 32] ++ ta ++ [32, 123, 10] ++ tbd ++ I = s5 at *
    generalize I ++ [105, 102, 32] ++ ta ++ [32, 123, 10] ++ tbd = s4 at *
    generalize I ++ [105, 102, 32] ++ ta ++ [32, 123, 10] = s3 at *
    generalize I ++ [105, 102, 32] ++ ta = s2 at *
    generalize I ++ [105, 102, 32] = s1 at *
    rw [k_call (c := C) (f := 36) rfl Tryz.func36 rfl (ok 36 (by kernel_rfl)) rfl Tryz.ntmps36 Tryz.results36 (by simp)]
    simp (maxSteps := 1000000) only [go_sem, acondK_bool, acB_merge, Nat.reduceLT, Nat.reduceLeDiff, Nat.reduceEqDiff, Nat.reduceAdd, Nat.reduceSub, Nat.reduceMul, Nat.reduceBEq, Nat.reduceBNe, Nat.reduceBneDiff, Nat.reduceBeqDiff, Int.reduceToNat, Int.reduceLE, Int.reduceLT, Int.reduceEq, Int.reduceNe, Int.reduceNeg, Int.reduceAdd, Int.reduceSub, ↓reduceIte, reduceCtorEq, hi, ea, eB, wd, q1, q2, q3, q4, q7, q8, q6, eE, hc, c1, c2, c3, c4, c5, c6, e1, e2, e3, e4, f1, k_drawn_q]
  | false =>
    rw [if_neg (by decide), List.nil_append]
    have f1 := sadd (a := I ++ [105, 102, 32] ++ ta ++ [32, 123, 10] ++ tbd ++ I ++ [125]) (b := [10]) (by (try simp only [List.length_append, List.length_cons, List.length_nil]); omega)
    have hq : I ++ [105, 102, 32] ++ ta ++ [32, 123, 10] ++ tbd ++ I ++ [125] ++ [10] = I ++ ([[105, 102, 32], ta, [32, 123]].flatten ++ [10]) ++ (tbd ++ (I ++ ([[125]].flatten ++ [10]))) := by simp
    rw [hq] at f1
    generalize I ++ ([[105, 102, 32], ta, [32, 123]].flatten ++ [10]) ++ (tbd ++ (I ++ ([[125]].flatten ++ [10]))) = R at *
    generalize I ++ [105, 102, 32] ++ ta ++ [32, 123, 10] ++ tbd ++ I ++ [125] = s6 at *
    generalize I ++ [105, 102, 32] ++ ta ++ [32, 123, 10] ++ tbd ++ I = s5 at *
    generalize I ++ [105, 102, 32] ++ ta ++ [32, 123, 10] ++ tbd = s4 at *
    generalize I ++ [105, 102, 32] ++ ta ++ [32, 123, 10] = s3 at *
    generalize I ++ [105, 102, 32] ++ ta = s2 at *
    generalize I ++ [105, 102, 32] = s1 at *
    rw [k_call (c := C) (f := 36) rfl Tryz.func36 rfl (ok 36 (by kernel_rfl)) rfl Tryz.ntmps36 Tryz.results36 (by simp)]
    simp (maxSteps := 1000000) only [go_sem, acondK_bool, acB_merge, Nat.reduceLT, Nat.reduceLeDiff, Nat.reduceEqDiff, Nat.reduceAdd, Nat.reduceSub, Nat.reduceMul, Nat.reduceBEq, Nat.reduceBNe, Nat.reduceBneDiff, Nat.reduceBeqDiff, Int.reduceToNat, Int.reduceLE, Int.reduceLT, Int.reduceEq, Int.reduceNe, Int.reduceNeg, Int.reduceAdd, Int.reduceSub, ↓reduceIte, reduceCtorEq, hi, ea, eB, wd, q1, q2, q3, q4, q7, q8, q6, eE, hc, c1, c2, c3, c4, c5, c6, f1, k_drawn_q]
end Go.Proofs.YtfflfaedghfmdaaGreatDoor
