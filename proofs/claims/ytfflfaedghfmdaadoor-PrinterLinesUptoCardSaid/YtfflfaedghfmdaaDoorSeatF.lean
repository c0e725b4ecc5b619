/- The printer's small functions: level, sign, word, typeWord. -/
import Derived.Lib.ItoaNum
import Derived.Test.YtfflfaedghfmdaaDoorSeatA
import Derived.Test.YtfflfaedghfmdaaDoorSeatD
import Derived.Test.YtfflfaedghfmdaaDoorGenC
set_option linter.unusedVariables false
set_option linter.unusedSimpArgs false
set_option linter.all false
set_option linter.deprecated false
set_option linter.all false
namespace Go.Proofs.YtfflfaedghfmdaaDoor
open Go.Abs
attribute [local congr] ite_congr
set_option maxRecDepth 100000
def lvl (op : Int) : Int :=
  if op = 17 then 1 else if op = 16 then 2 else if op = 18 then 3 else if 10 ≤ op ∧ op ≤ 15 then 4 else if op = 19 then 5 else if op = 4 ∨ op = 5 then 6 else if 6 ≤ op ∧ op ≤ 8 then 7 else if op = 9 then 8 else 9
def sgn (op : Int) : Bytes :=
  if op = 17 then [111, 114] else if op = 16 then [97, 110, 100] else if op = 10 then [61, 61] else if op = 11 then [33, 61] else if op = 12 then [60] else if op = 13 then [60, 61] else if op = 14 then [62] else if op = 15 then [62, 61] else if op = 19 then [43, 43] else if op = 4 then [43] else if op = 5 then [45] else if op = 6 then [42] else if op = 7 then [47] else [37]
def wrd (op : Int) : Bytes :=
  if op = 20 then [116, 101, 120, 116] else if op = 21 then [108, 101, 110] else if op = 22 then [103, 101, 116, 105, 110, 116] else if op = 23 then [103, 101, 116, 115, 116, 114] else if op = 24 then [104, 97, 115] else if op = 25 then [110, 111, 119] else if op = 26 then [114, 97, 110, 100, 111, 109] else if op = 27 then [110, 111, 100, 101] else []
def wrdR (op : Int) : Bytes :=
  if op = 20 then [116, 101, 120, 116] else if op = 21 then [108, 101, 110] else if op = 22 then [103, 101, 116, 105, 110, 116] else if op = 23 then [103, 101, 116, 115, 116, 114] else if op = 24 then [104, 97, 115] else if op = 25 then [110, 111, 119] else if op = 26 then [114, 97, 110, 100, 111, 109] else [110, 111, 100, 101]
def tyWord (t : Int) : Bytes := if t = 1 then [105, 110, 116] else if t = 2 then [115, 116, 114] else [98, 111, 111, 108]
theorem leafS {A : AHeap} {a b : Bytes} (h : a = b) : some (AV.d (.str a), A) = some (AV.d (.str b), A) := by rw [h]
set_option maxHeartbeats 4000000 in
theorem levelP (n : Int) (A : AHeap) : acl C 49 [.d (.int .i64 n)] A = some (.d (.int .i64 (lvl n)), A) := by
  rw [k_call (c := C) (f := 49) rfl Tryd.func49 rfl (ok 49 (by kernel_rfl)) rfl Tryd.ntmps49 Tryd.results49 (by simp)]
  simp (maxSteps := 1000000) only [go_sem, acB_merge, Nat.reduceLT, Nat.reduceLeDiff, Nat.reduceEqDiff, Nat.reduceAdd, Nat.reduceSub, Nat.reduceMul, Nat.reduceBEq, Nat.reduceBNe, Nat.reduceBneDiff, Nat.reduceBeqDiff, Int.reduceToNat, Int.reduceLE, Int.reduceLT, Int.reduceEq, Int.reduceNe, Int.reduceNeg, Int.reduceAdd, Int.reduceSub, ↓reduceIte, reduceCtorEq]
  repeat' (refine wayK (fun h => ?_) (fun h => ?_) <;> (try simp (maxSteps := 1000000) only [go_sem, acB_merge, Nat.reduceLT, Nat.reduceLeDiff, Nat.reduceEqDiff, Nat.reduceAdd, Nat.reduceSub, Nat.reduceMul, Nat.reduceBEq, Nat.reduceBNe, Nat.reduceBneDiff, Nat.reduceBeqDiff, Int.reduceToNat, Int.reduceLE, Int.reduceLT, Int.reduceEq, Int.reduceNe, Int.reduceNeg, Int.reduceAdd, Int.reduceSub, ↓reduceIte, reduceCtorEq, h]))
  all_goals
    refine leaf ?_
    simp at *
    first
      | (simp [lvl, *]; done)
      | (unfold lvl
         repeat' split
         all_goals omega)
set_option maxHeartbeats 4000000 in
theorem levelR (n : Int) (A : AHeap) : acl C 56 [.d (.int .i64 n)] A = some (.d (.int .i64 (lvl n)), A) := by
  rw [k_call (c := C) (f := 56) rfl Tryd.func56 rfl (ok 56 (by kernel_rfl)) rfl Tryd.ntmps56 Tryd.results56 (by simp)]
  simp (maxSteps := 1000000) only [go_sem, acB_merge, Nat.reduceLT, Nat.reduceLeDiff, Nat.reduceEqDiff, Nat.reduceAdd, Nat.reduceSub, Nat.reduceMul, Nat.reduceBEq, Nat.reduceBNe, Nat.reduceBneDiff, Nat.reduceBeqDiff, Int.reduceToNat, Int.reduceLE, Int.reduceLT, Int.reduceEq, Int.reduceNe, Int.reduceNeg, Int.reduceAdd, Int.reduceSub, ↓reduceIte, reduceCtorEq]
  repeat' (refine wayK (fun h => ?_) (fun h => ?_) <;> (try simp (maxSteps := 1000000) only [go_sem, acB_merge, Nat.reduceLT, Nat.reduceLeDiff, Nat.reduceEqDiff, Nat.reduceAdd, Nat.reduceSub, Nat.reduceMul, Nat.reduceBEq, Nat.reduceBNe, Nat.reduceBneDiff, Nat.reduceBeqDiff, Int.reduceToNat, Int.reduceLE, Int.reduceLT, Int.reduceEq, Int.reduceNe, Int.reduceNeg, Int.reduceAdd, Int.reduceSub, ↓reduceIte, reduceCtorEq, h]))
  all_goals
    refine leaf ?_
    simp at *
    first
      | (simp [lvl, *]; done)
      | (unfold lvl
         repeat' split
         all_goals omega)
theorem signP (n : Int) (A : AHeap) : acl C 54 [.d (.int .i64 n)] A = some (.d (.str (sgn n)), A) := by
  rw [k_call (c := C) (f := 54) rfl Tryd.func54 rfl (ok 54 (by kernel_rfl)) rfl Tryd.ntmps54 Tryd.results54 (by simp)]
  simp (maxSteps := 1000000) only [go_sem, acB_merge, Nat.reduceLT, Nat.reduceLeDiff, Nat.reduceEqDiff, Nat.reduceAdd, Nat.reduceSub, Nat.reduceMul, Nat.reduceBEq, Nat.reduceBNe, Nat.reduceBneDiff, Nat.reduceBeqDiff, Int.reduceToNat, Int.reduceLE, Int.reduceLT, Int.reduceEq, Int.reduceNe, Int.reduceNeg, Int.reduceAdd, Int.reduceSub, ↓reduceIte, reduceCtorEq]
  repeat' (refine wayK (fun h => ?_) (fun h => ?_) <;> (try simp (maxSteps := 1000000) only [go_sem, acB_merge, Nat.reduceLT, Nat.reduceLeDiff, Nat.reduceEqDiff, Nat.reduceAdd, Nat.reduceSub, Nat.reduceMul, Nat.reduceBEq, Nat.reduceBNe, Nat.reduceBneDiff, Nat.reduceBeqDiff, Int.reduceToNat, Int.reduceLE, Int.reduceLT, Int.reduceEq, Int.reduceNe, Int.reduceNeg, Int.reduceAdd, Int.reduceSub, ↓reduceIte, reduceCtorEq, h]))
  all_goals
    refine leafS ?_
    simp at *
    simp [sgn, *]
theorem signR (n : Int) (A : AHeap) : acl C 61 [.d (.int .i64 n)] A = some (.d (.str (sgn n)), A) := by
  rw [k_call (c := C) (f := 61) rfl Tryd.func61 rfl (ok 61 (by kernel_rfl)) rfl Tryd.ntmps61 Tryd.results61 (by simp)]
  simp (maxSteps := 1000000) only [go_sem, acB_merge, Nat.reduceLT, Nat.reduceLeDiff, Nat.reduceEqDiff, Nat.reduceAdd, Nat.reduceSub, Nat.reduceMul, Nat.reduceBEq, Nat.reduceBNe, Nat.reduceBneDiff, Nat.reduceBeqDiff, Int.reduceToNat, Int.reduceLE, Int.reduceLT, Int.reduceEq, Int.reduceNe, Int.reduceNeg, Int.reduceAdd, Int.reduceSub, ↓reduceIte, reduceCtorEq]
  repeat' (refine wayK (fun h => ?_) (fun h => ?_) <;> (try simp (maxSteps := 1000000) only [go_sem, acB_merge, Nat.reduceLT, Nat.reduceLeDiff, Nat.reduceEqDiff, Nat.reduceAdd, Nat.reduceSub, Nat.reduceMul, Nat.reduceBEq, Nat.reduceBNe, Nat.reduceBneDiff, Nat.reduceBeqDiff, Int.reduceToNat, Int.reduceLE, Int.reduceLT, Int.reduceEq, Int.reduceNe, Int.reduceNeg, Int.reduceAdd, Int.reduceSub, ↓reduceIte, reduceCtorEq, h]))
  all_goals
    refine leafS ?_
    simp at *
    simp [sgn, *]
theorem wordP (n : Int) (A : AHeap) : acl C 53 [.d (.int .i64 n)] A = some (.d (.str (wrd n)), A) := by
  rw [k_call (c := C) (f := 53) rfl Tryd.func53 rfl (ok 53 (by kernel_rfl)) rfl Tryd.ntmps53 Tryd.results53 (by simp)]
  simp (maxSteps := 1000000) only [go_sem, acB_merge, Nat.reduceLT, Nat.reduceLeDiff, Nat.reduceEqDiff, Nat.reduceAdd, Nat.reduceSub, Nat.reduceMul, Nat.reduceBEq, Nat.reduceBNe, Nat.reduceBneDiff, Nat.reduceBeqDiff, Int.reduceToNat, Int.reduceLE, Int.reduceLT, Int.reduceEq, Int.reduceNe, Int.reduceNeg, Int.reduceAdd, Int.reduceSub, ↓reduceIte, reduceCtorEq]
  repeat' (refine wayK (fun h => ?_) (fun h => ?_) <;> (try simp (maxSteps := 1000000) only [go_sem, acB_merge, Nat.reduceLT, Nat.reduceLeDiff, Nat.reduceEqDiff, Nat.reduceAdd, Nat.reduceSub, Nat.reduceMul, Nat.reduceBEq, Nat.reduceBNe, Nat.reduceBneDiff, Nat.reduceBeqDiff, Int.reduceToNat, Int.reduceLE, Int.reduceLT, Int.reduceEq, Int.reduceNe, Int.reduceNeg, Int.reduceAdd, Int.reduceSub, ↓reduceIte, reduceCtorEq, h]))
  all_goals
    refine leafS ?_
    simp at *
    simp [wrd, *]
theorem wordRf (n : Int) (A : AHeap) : acl C 60 [.d (.int .i64 n)] A = some (.d (.str (wrdR n)), A) := by
  rw [k_call (c := C) (f := 60) rfl Tryd.func60 rfl (ok 60 (by kernel_rfl)) rfl Tryd.ntmps60 Tryd.results60 (by simp)]
  simp (maxSteps := 1000000) only [go_sem, acB_merge, Nat.reduceLT, Nat.reduceLeDiff, Nat.reduceEqDiff, Nat.reduceAdd, Nat.reduceSub, Nat.reduceMul, Nat.reduceBEq, Nat.reduceBNe, Nat.reduceBneDiff, Nat.reduceBeqDiff, Int.reduceToNat, Int.reduceLE, Int.reduceLT, Int.reduceEq, Int.reduceNe, Int.reduceNeg, Int.reduceAdd, Int.reduceSub, ↓reduceIte, reduceCtorEq]
  repeat' (refine wayK (fun h => ?_) (fun h => ?_) <;> (try simp (maxSteps := 1000000) only [go_sem, acB_merge, Nat.reduceLT, Nat.reduceLeDiff, Nat.reduceEqDiff, Nat.reduceAdd, Nat.reduceSub, Nat.reduceMul, Nat.reduceBEq, Nat.reduceBNe, Nat.reduceBneDiff, Nat.reduceBeqDiff, Int.reduceToNat, Int.reduceLE, Int.reduceLT, Int.reduceEq, Int.reduceNe, Int.reduceNeg, Int.reduceAdd, Int.reduceSub, ↓reduceIte, reduceCtorEq, h]))
  all_goals
    refine leafS ?_
    simp at *
    simp [wrdR, *]
theorem typeWordP (n : Int) (A : AHeap) : acl C 23 [.d (.int .i64 n)] A = some (.d (.str (tyWord n)), A) := by
  rw [k_call (c := C) (f := 23) rfl Tryd.func23 rfl (ok 23 (by kernel_rfl)) rfl Tryd.ntmps23 Tryd.results23 (by simp)]
  simp (maxSteps := 1000000) only [go_sem, acB_merge, Nat.reduceLT, Nat.reduceLeDiff, Nat.reduceEqDiff, Nat.reduceAdd, Nat.reduceSub, Nat.reduceMul, Nat.reduceBEq, Nat.reduceBNe, Nat.reduceBneDiff, Nat.reduceBeqDiff, Int.reduceToNat, Int.reduceLE, Int.reduceLT, Int.reduceEq, Int.reduceNe, Int.reduceNeg, Int.reduceAdd, Int.reduceSub, ↓reduceIte, reduceCtorEq]
  repeat' (refine wayK (fun h => ?_) (fun h => ?_) <;> (try simp (maxSteps := 1000000) only [go_sem, acB_merge, Nat.reduceLT, Nat.reduceLeDiff, Nat.reduceEqDiff, Nat.reduceAdd, Nat.reduceSub, Nat.reduceMul, Nat.reduceBEq, Nat.reduceBNe, Nat.reduceBneDiff, Nat.reduceBeqDiff, Int.reduceToNat, Int.reduceLE, Int.reduceLT, Int.reduceEq, Int.reduceNe, Int.reduceNeg, Int.reduceAdd, Int.reduceSub, ↓reduceIte, reduceCtorEq, h]))
  all_goals
    refine leafS ?_
    simp at *
    simp [tyWord, *]
end Go.Proofs.YtfflfaedghfmdaaDoor
set_option linter.all false
namespace Go.Proofs.YtfflfaedghfmdaaDoor
open Go.Abs
attribute [local congr] ite_congr
set_option maxRecDepth 100000
theorem sadd {a b : Bytes} (h : a.length + b.length ≤ 1099511627776) (t : TypeId) : abin Tryd.prog .add t (.d (.str a)) (.d (.str b)) = some (.d (.str (a ++ b))) := b_sadd h
theorem fmtAt (n : Int) (hn : i64 n) (A : AHeap) : acl C 77 [.d (.int .i64 n), .d (.int .i64 10)] A = some (.d (.str (Lib.itoa n)), A) := by
  rw [acl_ext (c := C) (f := 77) (g := fmtFn Lib.itoa) rfl]
  obtain ⟨h1, h2⟩ := hn
  unfold fmtFn
  have hc : acleanVs A [.d (.int .i64 n), .d (.int .i64 10)] = ([.d (.int .i64 n), .d (.int .i64 10)], A) := by rfl
  rw [hc]
  dsimp only
  rw [if_pos ⟨rfl, by omega, by omega⟩]
theorem formatP (n : Int) (hn : i64 n) (A : AHeap) : acl C 50 [.d (.int .i64 n)] A = some (.d (.str (Lib.itoa n)), A) := by
  rw [k_call (c := C) (f := 50) rfl Tryd.func50 rfl (ok 50 (by kernel_rfl)) rfl Tryd.ntmps50 Tryd.results50 (by simp)]
  simp (maxSteps := 1000000) +contextual only [go_sem, acondK_bool, acB_merge, Nat.reduceLT, Nat.reduceLeDiff, Nat.reduceEqDiff, Nat.reduceAdd, Nat.reduceSub, Nat.reduceMul, Nat.reduceBEq, Nat.reduceBNe, Nat.reduceBneDiff, Nat.reduceBeqDiff, Int.reduceToNat, Int.reduceLE, Int.reduceLT, Int.reduceEq, Int.reduceNe, Int.reduceNeg, Int.reduceAdd, Int.reduceSub, ↓reduceIte, reduceCtorEq, fmtAt n hn]
theorem wrapU (n : Int) (h0 : 0 ≤ n) (h1 : n ≤ 18446744073709551615) : IntKind.u64.wrap n = n := by
  unfold IntKind.wrap
  simp [IntKind.bits, IntKind.signed]
  omega
theorem wrapB (n : Int) (h0 : 0 ≤ n) (h1 : n ≤ 255) : IntKind.u8.wrap n = n := by
  unfold IntKind.wrap
  simp [IntKind.bits, IntKind.signed]
  omega
theorem wrapNeg (n : Int) (hn : i64 n) (h : n < 0) : IntKind.u64.wrap (0 - IntKind.u64.wrap n) = (n.natAbs : Nat) := by
  obtain ⟨h1, h2⟩ := hn
  unfold IntKind.wrap
  simp [IntKind.bits, IntKind.signed]
  omega
theorem sizeR (n : Int) (hn : i64 n) (A : AHeap) : acl C 80 [.d (.int .i64 n)] A = some (.d (.int .u64 (n.natAbs : Nat)), A) := by
  have h3 := hn
  obtain ⟨h1, h2⟩ := h3
  rw [k_call (c := C) (f := 80) rfl Tryd.func80 rfl (ok 80 (by kernel_rfl)) rfl Tryd.ntmps80 Tryd.results80 (by simp)]
  rcases Int.lt_or_le n 0 with h | h
  · have h' : decide (n < 0) = true := by simpa using h
    simp (maxSteps := 1000000) +contextual only [go_sem, acondK_bool, acB_merge, Nat.reduceLT, Nat.reduceLeDiff, Nat.reduceEqDiff, Nat.reduceAdd, Nat.reduceSub, Nat.reduceMul, Nat.reduceBEq, Nat.reduceBNe, Nat.reduceBneDiff, Nat.reduceBeqDiff, Int.reduceToNat, Int.reduceLE, Int.reduceLT, Int.reduceEq, Int.reduceNe, Int.reduceNeg, Int.reduceAdd, Int.reduceSub, ↓reduceIte, reduceCtorEq, h', wrapNeg n hn h]
  · have h' : decide (n < 0) = false := by simpa using h
    have e : (n.natAbs : Int) = n := by omega
    simp (maxSteps := 1000000) +contextual only [go_sem, acondK_bool, acB_merge, Nat.reduceLT, Nat.reduceLeDiff, Nat.reduceEqDiff, Nat.reduceAdd, Nat.reduceSub, Nat.reduceMul, Nat.reduceBEq, Nat.reduceBNe, Nat.reduceBneDiff, Nat.reduceBeqDiff, Int.reduceToNat, Int.reduceLE, Int.reduceLT, Int.reduceEq, Int.reduceNe, Int.reduceNeg, Int.reduceAdd, Int.reduceSub, ↓reduceIte, reduceCtorEq, h', wrapU n h (by omega), e]
theorem pow_gt {u k : Nat} (h : k < Lib.nDigits u) (hk : 0 < k) : 0 < u / 10 ^ k := by
  induction k generalizing u with
  | zero => omega
  | succ k ih =>
    by_cases h10 : u < 10
    · rw [Lib.nDigits_small h10] at h; omega
    · rw [Lib.nDigits_big h10] at h
      rw [Nat.pow_succ, Nat.mul_comm, ← Nat.div_div_eq_div_mul]
      cases k with
      | zero => simp; omega
      | succ k => exact ih (by omega) (by omega)
theorem decDigits_rev (u : Nat) : Lib.decDigits u = ((List.range (Lib.nDigits u)).map (Lib.dg u)).reverse := by
  rw [Lib.decDigits_eq]
  apply List.ext_getElem
  · simp
  · intro i h1 h2
    simp
theorem nDigits_le {u : Nat} (h : u < 100000000000000000000) : Lib.nDigits u ≤ 20 := by
  rcases Nat.lt_or_ge 20 (Lib.nDigits u) with h' | h'
  · have := pow_gt h' (by decide)
    have e : (10 : Nat) ^ 20 = 100000000000000000000 := by decide
    rw [e, Nat.div_eq_of_lt h] at this
    omega
  · exact h'
theorem formatR (n : Int) (hn : i64 n) (A : AHeap) : acl C 57 [.d (.int .i64 n)] A = some (.d (.str (Lib.itoa n)), A) := by
  have hu : n.natAbs ≤ 9223372036854775808 := by obtain ⟨h1, h2⟩ := hn; omega
  have hres : Lib.itoa n = if decide (n < 0) = true then 45 :: Lib.decDigits n.natAbs else Lib.decDigits n.natAbs := by
    unfold Lib.itoa
    by_cases h : n < 0
    · simp [h]
    · have : n.toNat = n.natAbs := by omega
      simp [h, this]
  rw [hres, decDigits_rev]
  rw [k_call (c := C) (f := 57) rfl Tryd.func57 rfl (ok 57 (by kernel_rfl)) rfl Tryd.ntmps57 Tryd.results57 (by simp)]
  simp (maxSteps := 1000000) only [go_sem, acondK_bool, acB_merge, Nat.reduceLT, Nat.reduceLeDiff, Nat.reduceEqDiff, Nat.reduceAdd, Nat.reduceSub, Nat.reduceMul, Nat.reduceBEq, Nat.reduceBNe, Nat.reduceBneDiff, Nat.reduceBeqDiff, Int.reduceToNat, Int.reduceLE, Int.reduceLT, Int.reduceEq, Int.reduceNe, Int.reduceNeg, Int.reduceAdd, Int.reduceSub, ↓reduceIte, reduceCtorEq, sizeR n hn]
  generalize n.natAbs = u at *
  refine loop_any (fun pre => [(4, .v (.d (.str pre.reverse))), (3, .v (.d (.int .u64 ((u / 10 ^ pre.length : Nat) : Int)))), (0, .v (.d (.int .i64 n)))]) (fun _ => A)
    (fun _ _ => some (.d (.str (if decide (n < 0) = true then 45 :: ((List.range (Lib.nDigits u)).map (Lib.dg u)).reverse else ((List.range (Lib.nDigits u)).map (Lib.dg u)).reverse)), A)) ((List.range (Lib.nDigits u)).map (Lib.dg u)) (by simp) rfl rfl ?_
  intro pre suf hl ih
  have hlen : pre.length + suf.length = Lib.nDigits u := by rw [← List.length_append, ← hl]; simp
  cases suf with
  | nil =>
    rw [List.append_nil] at hl
    have hz : u / 10 ^ pre.length = 0 := by
      have := Lib.lt_pow_nDigits u
      rw [List.length_nil, Nat.add_zero] at hlen
      rw [hlen]
      exact Nat.div_eq_of_lt this
    have hne : (pre.reverse == ([] : Bytes)) = false := by
      have := Lib.nDigits_pos u
      cases pre with
      | nil => simp at hlen; omega
      | cons x pre => simp
    rw [hz, hl]
    have e1 : decide ((0 : Int) < ((0 : Nat) : Int)) = false := by rfl
    have hq : pre.reverse.length ≤ 20 := by
      have := nDigits_le (u := u) (by omega)
      rw [List.length_reverse]
      simp at hlen
      omega
    have e2 := sadd (a := [45]) (b := pre.reverse) (by rw [List.length_cons, List.length_nil]; omega)
    change ∀ t, abin _ _ _ _ _ = some (.d (.str (45 :: pre.reverse))) at e2
    generalize pre.reverse = q at *
    cases hd : decide (n < 0) <;> simp (maxSteps := 1000000) only [go_sem, acondK_bool, acB_merge, Nat.reduceLT, Nat.reduceLeDiff, Nat.reduceEqDiff, Nat.reduceAdd, Nat.reduceSub, Nat.reduceMul, Nat.reduceBEq, Nat.reduceBNe, Nat.reduceBneDiff, Nat.reduceBeqDiff, Int.reduceToNat, Int.reduceLE, Int.reduceLT, Int.reduceEq, Int.reduceNe, Int.reduceNeg, Int.reduceAdd, Int.reduceSub, ↓reduceIte, reduceCtorEq, e1, hne, hd, e2]
  | cons x suf =>
    have hx : x = Lib.dg u pre.length := by
      have : ((List.range (Lib.nDigits u)).map (Lib.dg u))[pre.length]? = some x := by rw [hl]; simp
      rw [List.getElem?_map, List.getElem?_range (by simp at hlen; omega)] at this
      simpa using this.symm
    have hgo : (decide ((0 : Int) < ((u / 10 ^ pre.length : Nat) : Int)) || (pre.reverse == ([] : Bytes))) = true := by
      cases pre with
      | nil => simp
      | cons y pre =>
        have := pow_gt (u := u) (k := (y :: pre).length) (by simp at hlen ⊢; omega) (by simp)
        rw [Bool.or_eq_true]
        left
        generalize u / 10 ^ (y :: pre).length = z at *
        simp
        omega
    have hm : ((u / 10 ^ pre.length : Nat) : Int).tmod 10 = ((u / 10 ^ pre.length % 10 : Nat) : Int) := by
      generalize u / 10 ^ pre.length = z
      rw [Int.tmod_eq_emod_of_nonneg (by omega)]
      omega
    have hd : ((u / 10 ^ pre.length : Nat) : Int).tdiv 10 = ((u / 10 ^ (pre ++ [x]).length : Nat) : Int) := by
      have : u / 10 ^ (pre ++ [x]).length = u / 10 ^ pre.length / 10 := by
        rw [List.length_append, List.length_cons, List.length_nil, Nat.pow_succ, Nat.div_div_eq_div_mul]
      rw [this]
      generalize u / 10 ^ pre.length = z
      rw [Int.tdiv_eq_ediv_of_nonneg (by omega)]
      omega
    have hw1 : IntKind.u64.wrap (48 + ((u / 10 ^ pre.length % 10 : Nat) : Int)) = 48 + ((u / 10 ^ pre.length % 10 : Nat) : Int) := by
      generalize u / 10 ^ pre.length = z
      exact wrapU _ (by omega) (by omega)
    have hw2 : IntKind.u8.wrap (48 + ((u / 10 ^ pre.length % 10 : Nat) : Int)) = 48 + ((u / 10 ^ pre.length % 10 : Nat) : Int) := by
      generalize u / 10 ^ pre.length = z
      exact wrapB _ (by omega) (by omega)
    have hw3 : IntKind.u64.wrap (((u / 10 ^ (pre ++ [x]).length : Nat) : Int)) = ((u / 10 ^ (pre ++ [x]).length : Nat) : Int) := by
      have := Nat.div_le_self u (10 ^ (pre ++ [x]).length)
      generalize u / 10 ^ (pre ++ [x]).length = z at *
      exact wrapU _ (by omega) (by omega)
    have hb : [UInt8.ofNat (48 + ((u / 10 ^ pre.length % 10 : Nat) : Int)).toNat] ++ pre.reverse = (pre ++ [x]).reverse := by
      rw [hx]
      have : (48 + ((u / 10 ^ pre.length % 10 : Nat) : Int)).toNat = 48 + u / 10 ^ pre.length % 10 := by
        generalize u / 10 ^ pre.length = z
        omega
      rw [this]
      simp [Lib.dg]
    have e2 := ih x suf rfl
    have hq : pre.reverse.length ≤ 20 := by
      have := nDigits_le (u := u) (by omega)
      rw [List.length_reverse]
      omega
    have e3 := sadd (a := [UInt8.ofNat (48 + ((u / 10 ^ pre.length % 10 : Nat) : Int)).toNat]) (b := pre.reverse) (by rw [List.length_cons, List.length_nil]; omega)
    rw [hb] at e3
    generalize (pre ++ [x]).reverse = q1 at *
    generalize pre.reverse = q0 at *
    generalize u / 10 ^ (pre ++ [x]).length = u1 at *
    generalize u / 10 ^ pre.length = u0 at *
    cases hd0 : decide ((0 : Int) < (u0 : Int)) <;> rw [hd0] at hgo
    · have hgo' : (q0 == ([] : Bytes)) = true := by simpa using hgo
      simp (maxSteps := 1000000) only [go_sem, acondK_bool, acB_merge, Nat.reduceLT, Nat.reduceLeDiff, Nat.reduceEqDiff, Nat.reduceAdd, Nat.reduceSub, Nat.reduceMul, Nat.reduceBEq, Nat.reduceBNe, Nat.reduceBneDiff, Nat.reduceBeqDiff, Int.reduceToNat, Int.reduceLE, Int.reduceLT, Int.reduceEq, Int.reduceNe, Int.reduceNeg, Int.reduceAdd, Int.reduceSub, ↓reduceIte, reduceCtorEq, hd0, hgo', hm, hd, hw1, hw2, hw3, e3, e2]
    · simp (maxSteps := 1000000) only [go_sem, acondK_bool, acB_merge, Nat.reduceLT, Nat.reduceLeDiff, Nat.reduceEqDiff, Nat.reduceAdd, Nat.reduceSub, Nat.reduceMul, Nat.reduceBEq, Nat.reduceBNe, Nat.reduceBneDiff, Nat.reduceBeqDiff, Int.reduceToNat, Int.reduceLE, Int.reduceLT, Int.reduceEq, Int.reduceNe, Int.reduceNeg, Int.reduceAdd, Int.reduceSub, ↓reduceIte, reduceCtorEq, hd0, hm, hd, hw1, hw2, hw3, e3, e2]
end Go.Proofs.YtfflfaedghfmdaaDoor
set_option linter.all false
namespace Go.Proofs.YtfflfaedghfmdaaDoor
open Go.Abs
attribute [local congr] ite_congr
set_option maxRecDepth 100000
@[go_sem] theorem aappS_here {P : Program} {A : AHeap} {v : AV} {s : Bytes} {e : TypeId} : aappStr P A v (.d (.str s)) true (some (e, 1)) = aappend P e 1 A v (strRows s) := by rfl
noncomputable abbrev grB (A : AHeap) (s : Bytes) : AV × AHeap := agrow A 5 1 (strRows s)
theorem strRows_append (s t : Bytes) : strRows (s ++ t) = strRows s ++ strRows t := by unfold strRows; rw [List.map_append]
theorem strRows_len (s : Bytes) : (strRows s).length = s.length := by unfold strRows; rw [List.length_map]
theorem strRows_one (s : Bytes) : (strRows s).all (fun r => r.length == 1) = true := by unfold strRows; rw [List.all_map, List.all_eq_true]; intro x _; rfl
theorem strRows_nil {s : Bytes} : strRows s = [] ↔ s = [] := by unfold strRows; exact List.map_eq_nil_iff
theorem grB_append (A : AHeap) (s t : Bytes) (h : s.length + t.length ≤ 4194304) : aappend Tryd.prog 5 1 (grB A s).2 (grB A s).1 (strRows t) = some (grB A (s ++ t)) := by
  have := agrow_append (P := Tryd.prog) (A := A) (ty := 5) (sz := 1) (rows := strRows s) (src := strRows t) room_5_1 (strRows_one t) (by rw [strRows_len, strRows_len]; exact h)
  rw [this, ← strRows_append]
/-- a builder in the heap: the head of an object of type T -/
noncomputable def wrH (A : AHeap) (T : TypeId) (u : Bool) (s : Bytes) (tl : List AV) : AHeap := ⟨A.objs ++ [.tcells T ((if u then .ptr A.objs.length 0 else .nilP) :: (grB A s).1 :: tl)], (grB A s).2.bufs⟩
theorem wr_obj (A : AHeap) (T : TypeId) (u : Bool) (s : Bytes) (tl : List AV) : (wrH A T u s tl).objs[A.objs.length]? = some (.tcells T ((if u then .ptr A.objs.length 0 else .nilP) :: (grB A s).1 :: tl)) := by simp [wrH]
theorem wr_append (A : AHeap) (T : TypeId) (u : Bool) (s t : Bytes) (tl : List AV) (h : s.length + t.length ≤ 4194304) : aappend Tryd.prog 5 1 (wrH A T u s tl) (grB A s).1 (strRows t) = some ((grB A (s ++ t)).1, ⟨(wrH A T u s tl).objs, (grB A (s ++ t)).2.bufs⟩) := by
  have g1 : ∀ os m, (⟨os, (grB A m).2.bufs⟩ : AHeap) = (grB ⟨os, A.bufs⟩ m).2 := fun os m => grow_heap
  have g2 : ∀ os m, (grB A m).1 = (grB ⟨os, A.bufs⟩ m).1 := fun os m => grow_fst rfl
  have t' := grB_append ⟨(wrH A T u s tl).objs, A.bufs⟩ s t h
  have e : grB ⟨(wrH A T u s tl).objs, A.bufs⟩ (s ++ t) = ((grB A (s ++ t)).1, ⟨(wrH A T u s tl).objs, (grB A (s ++ t)).2.bufs⟩) := Prod.ext (g2 _ _).symm (g1 _ _).symm
  rw [e, ← g1, ← g2] at t'
  exact t'
theorem wr_set (A : AHeap) (T : TypeId) (u : Bool) (s s' : Bytes) (tl tl' : List AV) : (⟨(wrH A T u s tl).objs.set A.objs.length (.tcells T (.ptr A.objs.length 0 :: (grB A s').1 :: tl')), (grB A s').2.bufs⟩ : AHeap) = wrH A T true s' tl' := by
  simp [wrH]
theorem grB_nilS (A : AHeap) : grB A [] = (.nilS, A) := by rfl
theorem grB_own (A : AHeap) {s : Bytes} (h : s ≠ []) : grB A s = (.own A.bufs.length s.length, ⟨A.objs, A.bufs ++ [⟨5, 1, strRows s, 0⟩]⟩) := by
  unfold grB agrow
  rw [if_neg (fun e => h (strRows_nil.1 e)), strRows_len]
theorem wr_fin {f : FuncId} (ho : C.own f = false) (A : AHeap) (T : TypeId) (u : Bool) (s t : Bytes) (tl : List AV) {v : AV} (hv : v.still3 = true) : afinR C f (wrH A T u s tl) (wrH A T true (s ++ t) tl) (some v) = some (v.clean3, wrH A T true (s ++ t) tl) := by
  have hlen : (wrH A T true (s ++ t) tl).objs.length = (wrH A T u s tl).objs.length := by simp [wrH]
  by_cases hs : s = []
  · subst hs
    by_cases ht : t = []
    · subst ht
      exact afinR_len ho hv hlen rfl
    · refine afinR_loud ho hv fun hh => ?_
      have h9 := congrArg (fun l : List AObj => l[A.objs.length]?) hh
      simp [List.getElem?_take, wrH] at h9
      rw [grB_own A ht, grB_nilS] at h9
      exact absurd h9.2 (fun h => by cases h)
  · refine afinR_len ho hv hlen ?_
    unfold wrH
    rw [grB_own A hs, grB_own A (s := s ++ t) (by simp [hs])]
    simp
theorem ccAt (A : AHeap) (T : TypeId) (u : Bool) (s : Bytes) (tl : List AV) (hT : bldOk 64 62 T (tl.length + 2) = true) : acl C 65 [.ptr A.objs.length 0] (wrH A T u s tl) = some (.tuple [], wrH A T true s tl) := by
  rw [acl_ext (c := C) (f := 65) (g := ccFn 64 62) rfl]
  unfold ccFn
  simp only [wr_obj]
  rw [if_pos (by rw [List.length_cons]; exact hT)]
  cases u with
  | true =>
    simp only [if_true]
  | false =>
    simp only [Bool.false_eq_true, if_false]
    rw [show (⟨(wrH A T false s tl).objs.set A.objs.length (.tcells T (.ptr A.objs.length 0 :: (grB A s).1 :: tl)), (wrH A T false s tl).bufs⟩ : AHeap) = wrH A T true s tl from wr_set A T false s s tl tl]
theorem one_grB {A : AHeap} {s : Bytes} : (grB A s).1.one = true := one_grow
theorem writeByte (A : AHeap) (T : TypeId) (u : Bool) (s : Bytes) (tl : List AV) (hT : bldOk 64 62 T (tl.length + 2) = true) (b : UInt8) (h : s.length ≤ 4000000) : acl C 44 [.ptr A.objs.length 0, .d (.int .u8 (b.toNat : Nat))] (wrH A T u s tl) = some (.nilI, wrH A T true (s ++ [b]) tl) := by
  have e1 := ccAt A T u s tl hT
  have e2 := wr_append A T true s [b] tl (by simp; omega)
  have e3 := wr_set A T true s (s ++ [b]) tl tl
  have e4 := wr_fin (f := 44) rfl A T u s [b] tl (v := .nilI) rfl
  change afinR _ _ _ _ _ = some (.nilI, _) at e4
  have e5 := wr_obj A T true s tl
  simp only [if_true] at e5
  change aappend _ _ _ _ _ [[.int .u8 (b.toNat : Nat)]] = _ at e2
  rw [k_call (c := C) (f := 44) rfl Tryd.func44 rfl (ok 44 (by kernel_rfl)) rfl Tryd.ntmps44 Tryd.results44 (by simp)]
  simp (maxSteps := 1000000) only [go_sem, acondK_bool, acB_merge, Nat.reduceLT, Nat.reduceLeDiff, Nat.reduceEqDiff, Nat.reduceAdd, Nat.reduceSub, Nat.reduceMul, Nat.reduceBEq, Nat.reduceBNe, Nat.reduceBneDiff, Nat.reduceBeqDiff, Int.reduceToNat, Int.reduceLE, Int.reduceLT, Int.reduceEq, Int.reduceNe, Int.reduceNeg, Int.reduceAdd, Int.reduceSub, ↓reduceIte, reduceCtorEq, e1, e5, e2, e3, cells_grow, one_grB, e4]
theorem writeString (A : AHeap) (T : TypeId) (u : Bool) (s : Bytes) (tl : List AV) (hT : bldOk 64 62 T (tl.length + 2) = true) (t : Bytes) (h : s.length + t.length ≤ 4000000) : acl C 43 [.ptr A.objs.length 0, .d (.str t)] (wrH A T u s tl) = some (.tuple [.d (.int .i64 (t.length : Nat)), .nilI], wrH A T true (s ++ t) tl) := by
  have e1 := ccAt A T u s tl hT
  have e2 := wr_append A T true s t tl (by omega)
  have e3 := wr_set A T true s (s ++ t) tl tl
  have e4 := wr_fin (f := 43) rfl A T u s t tl (v := .tuple [.d (.int .i64 (t.length : Nat)), .nilI]) rfl
  change afinR _ _ _ _ _ = some (.tuple [.d (.int .i64 (t.length : Nat)), .nilI], _) at e4
  have e5 := wr_obj A T true s tl
  simp only [if_true] at e5
  rw [k_call (c := C) (f := 43) rfl Tryd.func43 rfl (ok 43 (by kernel_rfl)) rfl Tryd.ntmps43 Tryd.results43 (by simp)]
  simp (maxSteps := 1000000) only [go_sem, acondK_bool, acB_merge, Nat.reduceLT, Nat.reduceLeDiff, Nat.reduceEqDiff, Nat.reduceAdd, Nat.reduceSub, Nat.reduceMul, Nat.reduceBEq, Nat.reduceBNe, Nat.reduceBneDiff, Nat.reduceBeqDiff, Int.reduceToNat, Int.reduceLE, Int.reduceLT, Int.reduceEq, Int.reduceNe, Int.reduceNeg, Int.reduceAdd, Int.reduceSub, ↓reduceIte, reduceCtorEq, e1, e5, e2, e3, cells_grow, one_grB, e4]
end Go.Proofs.YtfflfaedghfmdaaDoor
