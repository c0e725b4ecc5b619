/- The closed example of chapter 9 runs. -/
import Derived.Test.YtfflfaedghfmdaaDoorFacts
import Derived.Test.YtfflfaedghfmdaaDoorGenD
set_option linter.unusedVariables false
set_option linter.unusedSimpArgs false
set_option linter.all false
set_option linter.deprecated false
set_option linter.all false
namespace Go.Proofs.YtfflfaedghfmdaaDoor
open Go.Abs
set_option maxRecDepth 1000000 in
theorem works0 : acl C0 13 [] A00 = some (.d (.bool true), A00) := bcl_sound (ok := okL.contains) okOf (n := 300) (by kernel_rfl)
theorem works (A : AHeap) : acl C 13 [] A = some (.d (.bool true), A) := by
  rw [acl_ext (c := C) (f := 13) (g := closedFn true) rfl]
  rfl
theorem own : ownKnob Tryd.prog.godebug = none := by kernel_rfl
theorem mixed : C.P.follows .mixedOrders = true := by kernel_rfl
theorem and2 {a b : Bool} (h : a = true) (h' : b = true) : (a && b) = true := by rw [h, h']; rfl
end Go.Proofs.YtfflfaedghfmdaaDoor
set_option linter.all false
set_option linter.unusedSimpArgs false
namespace Go.Proofs.YtfflfaedghfmdaaDoor
open Go.Abs
attribute [local congr] ite_congr
set_option maxRecDepth 10000
theorem leafB {A : AHeap} {a b : Bool} (h : a = b) : some (AV.d (.bool a), A) = some (AV.d (.bool b), A) := by rw [h]
theorem leafI {A : AHeap} {k : IntKind} {a b : Int} (h : a = b) : some (AV.d (.int k a), A) = some (AV.d (.int k b), A) := by rw [h]
@[go_sem] theorem letter (n : Int) (A : AHeap) : acl C 35 [.d (.int .i32 n)] A = some (.d (.bool (decide (97 ≤ n) && decide (n ≤ 122))), A) := by
  rw [k_call (c := C) (f := 35) rfl Tryd.func35 rfl (ok 35 (by kernel_rfl)) rfl Tryd.ntmps35 Tryd.results35 (by simp)]
  simp (maxSteps := 1000000) +contextual only [go_sem, acondK_bool, acB_merge, Nat.reduceLT, Nat.reduceLeDiff, Nat.reduceEqDiff, Nat.reduceAdd, Nat.reduceSub, Nat.reduceMul, Nat.reduceBEq, Nat.reduceBNe, Nat.reduceBneDiff, Nat.reduceBeqDiff, Int.reduceToNat, Int.reduceLE, Int.reduceLT, Int.reduceEq, Int.reduceNe, Int.reduceNeg, Int.reduceAdd, Int.reduceSub, ↓reduceIte, reduceCtorEq, afinR_d]
@[go_sem] theorem letterR (n : Int) (A : AHeap) : acl C 93 [.d (.int .u8 n)] A = some (.d (.bool (decide (97 ≤ n) && decide (n ≤ 122))), A) := by
  rw [k_call (c := C) (f := 93) rfl Tryd.func93 rfl (ok 93 (by kernel_rfl)) rfl Tryd.ntmps93 Tryd.results93 (by simp)]
  simp (maxSteps := 1000000) +contextual only [go_sem, acondK_bool, acB_merge, Nat.reduceLT, Nat.reduceLeDiff, Nat.reduceEqDiff, Nat.reduceAdd, Nat.reduceSub, Nat.reduceMul, Nat.reduceBEq, Nat.reduceBNe, Nat.reduceBneDiff, Nat.reduceBeqDiff, Int.reduceToNat, Int.reduceLE, Int.reduceLT, Int.reduceEq, Int.reduceNe, Int.reduceNeg, Int.reduceAdd, Int.reduceSub, ↓reduceIte, reduceCtorEq, afinR_d]
@[go_sem] theorem digitR (n : Int) (A : AHeap) : acl C 106 [.d (.int .u8 n)] A = some (.d (.bool (decide (48 ≤ n) && decide (n ≤ 57))), A) := by
  rw [k_call (c := C) (f := 106) rfl Tryd.func106 rfl (ok 106 (by kernel_rfl)) rfl Tryd.ntmps106 Tryd.results106 (by simp)]
  simp (maxSteps := 1000000) +contextual only [go_sem, acondK_bool, acB_merge, Nat.reduceLT, Nat.reduceLeDiff, Nat.reduceEqDiff, Nat.reduceAdd, Nat.reduceSub, Nat.reduceMul, Nat.reduceBEq, Nat.reduceBNe, Nat.reduceBneDiff, Nat.reduceBeqDiff, Int.reduceToNat, Int.reduceLE, Int.reduceLT, Int.reduceEq, Int.reduceNe, Int.reduceNeg, Int.reduceAdd, Int.reduceSub, ↓reduceIte, reduceCtorEq, afinR_d]
def part (n : Int) : Bool := decide (97 ≤ n) && decide (n ≤ 122) || (decide (48 ≤ n) && decide (n ≤ 57)) || decide (n = 95)
@[go_sem] theorem partR (n : Int) (A : AHeap) : acl C 101 [.d (.int .u8 n)] A = some (.d (.bool (part n)), A) := by
  rw [k_call (c := C) (f := 101) rfl Tryd.func101 rfl (ok 101 (by kernel_rfl)) rfl Tryd.ntmps101 Tryd.results101 (by simp)]
  simp (maxSteps := 1000000) +contextual only [go_sem, acondK_bool, acB_merge, Nat.reduceLT, Nat.reduceLeDiff, Nat.reduceEqDiff, Nat.reduceAdd, Nat.reduceSub, Nat.reduceMul, Nat.reduceBEq, Nat.reduceBNe, Nat.reduceBneDiff, Nat.reduceBeqDiff, Int.reduceToNat, Int.reduceLE, Int.reduceLT, Int.reduceEq, Int.reduceNe, Int.reduceNeg, Int.reduceAdd, Int.reduceSub, ↓reduceIte, reduceCtorEq, afinR_d, part]
/-- the words that are no names -/
def keywords : List (List UInt8) := [[112, 114, 111, 99], [108, 101, 116], [112, 117, 116], [100, 101, 108, 101, 116, 101], [105, 102], [101, 108, 115, 101], [102, 111, 114], [116, 111], [109, 97, 120], [101, 109, 105, 116], [97, 98, 111, 114, 116], [110, 111, 116], [97, 110, 100], [111, 114], [105, 110, 116], [115, 116, 114], [98, 111, 111, 108], [116, 101, 120, 116], [108, 101, 110], [103, 101, 116, 105, 110, 116], [103, 101, 116, 115, 116, 114], [104, 97, 115], [110, 111, 119], [114, 97, 110, 100, 111, 109], [110, 111, 100, 101]]
@[go_sem] theorem isKeyword (s : List UInt8) (A : AHeap) : acl C 37 [.d (.str s)] A = some (.d (.bool (keywords.contains s)), A) := by
  rw [k_call (c := C) (f := 37) rfl Tryd.func37 rfl (ok 37 (by kernel_rfl)) rfl Tryd.ntmps37 Tryd.results37 (by simp)]
  simp (maxSteps := 1000000) +contextual only [go_sem, acondK_bool, acB_merge, Nat.reduceLT, Nat.reduceLeDiff, Nat.reduceEqDiff, Nat.reduceAdd, Nat.reduceSub, Nat.reduceMul, Nat.reduceBEq, Nat.reduceBNe, Nat.reduceBneDiff, Nat.reduceBeqDiff, Int.reduceToNat, Int.reduceLE, Int.reduceLT, Int.reduceEq, Int.reduceNe, Int.reduceNeg, Int.reduceAdd, Int.reduceSub, ↓reduceIte, reduceCtorEq, keywords]
@[go_sem] theorem keywordsR (A : AHeap) : acl C 103 [] A = some (.d (.slice (keywords.map fun k => [.str k])), A) := by
  rw [k_call (c := C) (f := 103) rfl Tryd.func103 rfl (ok 103 (by kernel_rfl)) rfl Tryd.ntmps103 Tryd.results103 (by simp)]
  simp (maxSteps := 1000000) +contextual only [go_sem, acondK_bool, acB_merge, Nat.reduceLT, Nat.reduceLeDiff, Nat.reduceEqDiff, Nat.reduceAdd, Nat.reduceSub, Nat.reduceMul, Nat.reduceBEq, Nat.reduceBNe, Nat.reduceBneDiff, Nat.reduceBeqDiff, Int.reduceToNat, Int.reduceLE, Int.reduceLT, Int.reduceEq, Int.reduceNe, Int.reduceNeg, Int.reduceAdd, Int.reduceSub, ↓reduceIte, reduceCtorEq, keywords]
@[go_sem] theorem hasR (l : List (List UInt8)) (s : List UInt8) (A : AHeap) (hl : l.length ≤ 1099511627776) : acl C 102 [.d (.slice (l.map fun k => [.str k])), .d (.str s)] A = some (.d (.bool (l.any (· == s))), A) := by
  rw [k_call (c := C) (f := 102) rfl Tryd.func102 rfl (ok 102 (by kernel_rfl)) rfl Tryd.ntmps102 Tryd.results102 (by simp)]
  simp (maxSteps := 1000000) +contextual only [go_sem, acondK_bool, acB_merge, Nat.reduceLT, Nat.reduceLeDiff, Nat.reduceEqDiff, Nat.reduceAdd, Nat.reduceSub, Nat.reduceMul, Nat.reduceBEq, Nat.reduceBNe, Nat.reduceBneDiff, Nat.reduceBeqDiff, Int.reduceToNat, Int.reduceLE, Int.reduceLT, Int.reduceEq, Int.reduceNe, Int.reduceNeg, Int.reduceAdd, Int.reduceSub, ↓reduceIte, reduceCtorEq]
  refine loop_list (fun n => [(0, .v (.d (.slice (l.map fun k => [.str k])))), (1, .v (.d (.str s))), (5, .v (.d (.int .i64 (n : Int))))]) (fun pre suf => some (.d (.bool (suf.any (· == s))), A)) l rfl rfl ?_
  intro pre suf h ih
  subst h
  have hb : pre.length < 9223372036854775807 := by simp at hl; omega
  cases suf with
  | nil => simp (maxSteps := 1000000) +contextual only [go_sem, acondK_bool, acB_merge, Nat.reduceLT, Nat.reduceLeDiff, Nat.reduceEqDiff, Nat.reduceAdd, Nat.reduceSub, Nat.reduceMul, Nat.reduceBEq, Nat.reduceBNe, Nat.reduceBneDiff, Nat.reduceBeqDiff, Int.reduceToNat, Int.reduceLE, Int.reduceLT, Int.reduceEq, Int.reduceNe, Int.reduceNeg, Int.reduceAdd, Int.reduceSub, ↓reduceIte, reduceCtorEq, List.any_nil]
  | cons x suf => simp (maxSteps := 1000000) +contextual only [go_sem, acondK_bool, acB_merge, Nat.reduceLT, Nat.reduceLeDiff, Nat.reduceEqDiff, Nat.reduceAdd, Nat.reduceSub, Nat.reduceMul, Nat.reduceBEq, Nat.reduceBNe, Nat.reduceBneDiff, Nat.reduceBeqDiff, Int.reduceToNat, Int.reduceLE, Int.reduceLT, Int.reduceEq, Int.reduceNe, Int.reduceNeg, Int.reduceAdd, Int.reduceSub, ↓reduceIte, reduceCtorEq, ih x suf rfl, wrap_nat hb, List.any_cons]
/-- how long the word is with which a text begins -/
def wlen : List UInt8 → Nat
  | [] => 0
  | b :: l => if part (b.toNat : Int) = true then wlen l + 1 else 0
theorem wlen_le : ∀ l, wlen l ≤ l.length
  | [] => Nat.le_refl _
  | b :: l => by
    have := wlen_le l
    unfold wlen
    split <;> simp <;> omega
@[go_sem] theorem word (s : List UInt8) (A : AHeap) (hl : s.length ≤ 1099511627776) : acl C 36 [.d (.str s)] A = some (.d (.int .i64 (wlen s : Nat)), A) := by
  rw [k_call (c := C) (f := 36) rfl Tryd.func36 rfl (ok 36 (by kernel_rfl)) rfl Tryd.ntmps36 Tryd.results36 (by simp)]
  simp (maxSteps := 1000000) +contextual only [go_sem, acondK_bool, acB_merge, Nat.reduceLT, Nat.reduceLeDiff, Nat.reduceEqDiff, Nat.reduceAdd, Nat.reduceSub, Nat.reduceMul, Nat.reduceBEq, Nat.reduceBNe, Nat.reduceBneDiff, Nat.reduceBeqDiff, Int.reduceToNat, Int.reduceLE, Int.reduceLT, Int.reduceEq, Int.reduceNe, Int.reduceNeg, Int.reduceAdd, Int.reduceSub, ↓reduceIte, reduceCtorEq]
  refine loop_any (fun _ => [(6, .v (.ptr A.objs.length 0)), (0, .v (.d (.str s)))]) (fun pre => ⟨A.objs ++ [.iter s pre.length], A.bufs⟩) (fun pre suf => some (.d (.int .i64 ((pre.length + wlen suf : Nat) : Int)), A)) s rfl rfl (by simp) ?_
  intro pre suf h ih
  subst h
  cases suf with
  | nil => simp (maxSteps := 1000000) +contextual only [go_sem, acondK_bool, acB_merge, Nat.reduceLT, Nat.reduceLeDiff, Nat.reduceEqDiff, Nat.reduceAdd, Nat.reduceSub, Nat.reduceMul, Nat.reduceBEq, Nat.reduceBNe, Nat.reduceBneDiff, Nat.reduceBeqDiff, Int.reduceToNat, Int.reduceLE, Int.reduceLT, Int.reduceEq, Int.reduceNe, Int.reduceNeg, Int.reduceAdd, Int.reduceSub, ↓reduceIte, reduceCtorEq, anextO_end, wlen]
  | cons x suf =>
    rcases Nat.lt_or_ge x.toNat 128 with hx | hx
    · have e : pre.length + 1 = (pre ++ [x]).length := by simp
      have ih' := ih x suf rfl
      rw [← e] at ih'
      simp (maxSteps := 1000000) +contextual only [go_sem, acondK_bool, acB_merge, Nat.reduceLT, Nat.reduceLeDiff, Nat.reduceEqDiff, Nat.reduceAdd, Nat.reduceSub, Nat.reduceMul, Nat.reduceBEq, Nat.reduceBNe, Nat.reduceBneDiff, Nat.reduceBeqDiff, Int.reduceToNat, Int.reduceLE, Int.reduceLT, Int.reduceEq, Int.reduceNe, Int.reduceNeg, Int.reduceAdd, Int.reduceSub, ↓reduceIte, reduceCtorEq, anextO_low hx, ih']
      refine leafI ?_
      clear ih ih'
      cases hp : part (x.toNat : Int) <;> simp only [wlen, hp, if_true, Bool.false_eq_true, if_false] <;> simp [part] at hp
      all_goals
        repeat' split
        all_goals simp at *
        all_goals omega
    · obtain ⟨r, w, hr, hn⟩ := anextO_high (A := ⟨A.objs ++ [.iter (pre ++ x :: suf) pre.length], A.bufs⟩) (id := A.objs.length) (pre := pre) (suf := suf) hx
      have h1 : decide ((r : Int) ≤ 122) = false := by simp; omega
      have h2 : decide ((r : Int) = 95) = false := by simp; omega
      have h3 : decide ((57 : Int) < (r : Int)) = true := by simp; omega
      have h4 : part (x.toNat : Int) = false := by simp [part]; omega
      simp (maxSteps := 1000000) +contextual only [go_sem, acondK_bool, acB_merge, Nat.reduceLT, Nat.reduceLeDiff, Nat.reduceEqDiff, Nat.reduceAdd, Nat.reduceSub, Nat.reduceMul, Nat.reduceBEq, Nat.reduceBNe, Nat.reduceBneDiff, Nat.reduceBeqDiff, Int.reduceToNat, Int.reduceLE, Int.reduceLT, Int.reduceEq, Int.reduceNe, Int.reduceNeg, Int.reduceAdd, Int.reduceSub, ↓reduceIte, reduceCtorEq, hn, h1, h2, h3, h4, wlen]
@[go_sem] theorem wordR (s : List UInt8) (A : AHeap) (hl : s.length ≤ 1099511627776) : acl C 94 [.d (.str s), .d (.int .i64 0)] A = some (.d (.int .i64 (wlen s : Nat)), A) := by
  rw [k_call (c := C) (f := 94) rfl Tryd.func94 rfl (ok 94 (by kernel_rfl)) rfl Tryd.ntmps94 Tryd.results94 (by simp)]
  simp (maxSteps := 1000000) +contextual only [go_sem, acondK_bool, acB_merge, Nat.reduceLT, Nat.reduceLeDiff, Nat.reduceEqDiff, Nat.reduceAdd, Nat.reduceSub, Nat.reduceMul, Nat.reduceBEq, Nat.reduceBNe, Nat.reduceBneDiff, Nat.reduceBeqDiff, Int.reduceToNat, Int.reduceLE, Int.reduceLT, Int.reduceEq, Int.reduceNe, Int.reduceNeg, Int.reduceAdd, Int.reduceSub, ↓reduceIte, reduceCtorEq]
  refine loop_list (fun n => [(1, .v (.d (.int .i64 (n : Int)))), (0, .v (.d (.str s)))]) (fun pre suf => some (.d (.int .i64 ((pre.length + wlen suf : Nat) : Int)), A)) s rfl (by simp) ?_
  intro pre suf h ih
  subst h
  have hb : pre.length < 9223372036854775807 := by simp at hl; omega
  cases suf with
  | nil => simp (maxSteps := 1000000) +contextual only [go_sem, acondK_bool, acB_merge, Nat.reduceLT, Nat.reduceLeDiff, Nat.reduceEqDiff, Nat.reduceAdd, Nat.reduceSub, Nat.reduceMul, Nat.reduceBEq, Nat.reduceBNe, Nat.reduceBneDiff, Nat.reduceBeqDiff, Int.reduceToNat, Int.reduceLE, Int.reduceLT, Int.reduceEq, Int.reduceNe, Int.reduceNeg, Int.reduceAdd, Int.reduceSub, ↓reduceIte, reduceCtorEq, wlen]
  | cons x suf =>
    simp (maxSteps := 1000000) +contextual only [go_sem, acondK_bool, acB_merge, Nat.reduceLT, Nat.reduceLeDiff, Nat.reduceEqDiff, Nat.reduceAdd, Nat.reduceSub, Nat.reduceMul, Nat.reduceBEq, Nat.reduceBNe, Nat.reduceBneDiff, Nat.reduceBeqDiff, Int.reduceToNat, Int.reduceLE, Int.reduceLT, Int.reduceEq, Int.reduceNe, Int.reduceNeg, Int.reduceAdd, Int.reduceSub, ↓reduceIte, reduceCtorEq, ih x suf rfl, wrap_nat hb]
    refine leafI ?_
    simp only [wlen]
    split <;> simp <;> omega
/-- a name -/
def isName (s : List UInt8) : Bool := match s with
  | [] => false
  | b :: l => decide (((b :: l).length : Int) ≤ 16) && (decide (97 ≤ (b.toNat : Int)) && decide ((b.toNat : Int) ≤ 122)) && decide ((wlen (b :: l) : Int) = ((b :: l).length : Int)) && !keywords.contains (b :: l)
@[go_sem] theorem isName_eq (s : List UInt8) (A : AHeap) (hl : s.length ≤ 1099511627776) : acl C 17 [.d (.str s)] A = some (.d (.bool (isName s)), A) := by
  rw [k_call (c := C) (f := 17) rfl Tryd.func17 rfl (ok 17 (by kernel_rfl)) rfl Tryd.ntmps17 Tryd.results17 (by simp)]
  cases s with
  | nil => simp (maxSteps := 1000000) +contextual only [go_sem, acondK_bool, acB_merge, Nat.reduceLT, Nat.reduceLeDiff, Nat.reduceEqDiff, Nat.reduceAdd, Nat.reduceSub, Nat.reduceMul, Nat.reduceBEq, Nat.reduceBNe, Nat.reduceBneDiff, Nat.reduceBeqDiff, Int.reduceToNat, Int.reduceLE, Int.reduceLT, Int.reduceEq, Int.reduceNe, Int.reduceNeg, Int.reduceAdd, Int.reduceSub, ↓reduceIte, reduceCtorEq, isName]
  | cons b l =>
    simp only [List.length_cons] at hl
    simp (maxSteps := 1000000) +contextual only [go_sem, acondK_bool, acB_merge, Nat.reduceLT, Nat.reduceLeDiff, Nat.reduceEqDiff, Nat.reduceAdd, Nat.reduceSub, Nat.reduceMul, Nat.reduceBEq, Nat.reduceBNe, Nat.reduceBneDiff, Nat.reduceBeqDiff, Int.reduceToNat, Int.reduceLE, Int.reduceLT, Int.reduceEq, Int.reduceNe, Int.reduceNeg, Int.reduceAdd, Int.reduceSub, ↓reduceIte, reduceCtorEq, isName, hl]
@[go_sem] theorem isKeywordR (s : List UInt8) (A : AHeap) : acl C 95 [.d (.str s)] A = some (.d (.bool (keywords.contains s)), A) := by
  rw [k_call (c := C) (f := 95) rfl Tryd.func95 rfl (ok 95 (by kernel_rfl)) rfl Tryd.ntmps95 Tryd.results95 (by simp)]
  have h : keywords.length ≤ 1099511627776 := by simp [keywords]
  simp (maxSteps := 1000000) +contextual only [go_sem, acondK_bool, acB_merge, Nat.reduceLT, Nat.reduceLeDiff, Nat.reduceEqDiff, Nat.reduceAdd, Nat.reduceSub, Nat.reduceMul, Nat.reduceBEq, Nat.reduceBNe, Nat.reduceBneDiff, Nat.reduceBeqDiff, Int.reduceToNat, Int.reduceLE, Int.reduceLT, Int.reduceEq, Int.reduceNe, Int.reduceNeg, Int.reduceAdd, Int.reduceSub, ↓reduceIte, reduceCtorEq, h, any_eq]
@[go_sem] theorem isNameR (s : List UInt8) (A : AHeap) (hl : s.length ≤ 1099511627776) : acl C 87 [.d (.str s)] A = some (.d (.bool (isName s)), A) := by
  rw [k_call (c := C) (f := 87) rfl Tryd.func87 rfl (ok 87 (by kernel_rfl)) rfl Tryd.ntmps87 Tryd.results87 (by simp)]
  cases s with
  | nil => simp (maxSteps := 1000000) +contextual only [go_sem, acondK_bool, acB_merge, Nat.reduceLT, Nat.reduceLeDiff, Nat.reduceEqDiff, Nat.reduceAdd, Nat.reduceSub, Nat.reduceMul, Nat.reduceBEq, Nat.reduceBNe, Nat.reduceBneDiff, Nat.reduceBeqDiff, Int.reduceToNat, Int.reduceLE, Int.reduceLT, Int.reduceEq, Int.reduceNe, Int.reduceNeg, Int.reduceAdd, Int.reduceSub, ↓reduceIte, reduceCtorEq, isName]
  | cons b l =>
    simp only [List.length_cons] at hl
    simp (maxSteps := 1000000) +contextual only [go_sem, acondK_bool, acB_merge, Nat.reduceLT, Nat.reduceLeDiff, Nat.reduceEqDiff, Nat.reduceAdd, Nat.reduceSub, Nat.reduceMul, Nat.reduceBEq, Nat.reduceBNe, Nat.reduceBneDiff, Nat.reduceBeqDiff, Int.reduceToNat, Int.reduceLE, Int.reduceLT, Int.reduceEq, Int.reduceNe, Int.reduceNeg, Int.reduceAdd, Int.reduceSub, ↓reduceIte, reduceCtorEq, isName, hl]
end Go.Proofs.YtfflfaedghfmdaaDoor
namespace Go.Proofs.YtfflfaedghfmdaaDoor
open Go.Abs
attribute [local congr] ite_congr
/-- how many operands -/
def ar (n : Int) : Int := if n < 1 ∨ 27 < n then -1 else if n ≤ 3 ∨ 25 ≤ n then 0 else if n = 9 ∨ n = 18 ∨ 20 ≤ n then 1 else 2
theorem leaf {A : AHeap} {a b : Int} (h : a = b) : some (AV.d (.int .i64 a), A) = some (AV.d (.int .i64 b), A) := by rw [h]
set_option maxRecDepth 100000 in
@[go_sem] theorem arity (n : Int) (A : AHeap) : acl C 75 [.d (.int .i64 n)] A = some (.d (.int .i64 (ar n)), A) := by
  rw [k_call (c := C) (f := 75) rfl Tryd.func75 rfl (ok 75 (by kernel_rfl)) rfl Tryd.ntmps75 Tryd.results75 (by simp)]
  simp (maxSteps := 1000000) +contextual only [go_sem, acondK_bool, Nat.reduceLT, Nat.reduceLeDiff, Nat.reduceEqDiff, Nat.reduceAdd, Nat.reduceSub, Nat.reduceMul, Nat.reduceBEq, Nat.reduceBNe, Nat.reduceBneDiff, Nat.reduceBeqDiff, Int.reduceToNat, Int.reduceLE, Int.reduceLT, Int.reduceEq, Int.reduceNe, Int.reduceNeg, Int.reduceAdd, Int.reduceSub, ↓reduceIte, reduceCtorEq]
  repeat' (refine way (fun h => ?_) (fun h => ?_))
  all_goals
    refine leaf ?_
    simp at *
    unfold ar
    repeat' split
    all_goals omega
set_option maxRecDepth 100000 in
@[go_sem] theorem arityR (n : Int) (A : AHeap) : acl C 86 [.d (.int .i64 n)] A = some (.d (.int .i64 (ar n)), A) := by
  rw [k_call (c := C) (f := 86) rfl Tryd.func86 rfl (ok 86 (by kernel_rfl)) rfl Tryd.ntmps86 Tryd.results86 (by simp)]
  simp (maxSteps := 1000000) only [go_sem, acB_merge, Nat.reduceLT, Nat.reduceLeDiff, Nat.reduceEqDiff, Nat.reduceAdd, Nat.reduceSub, Nat.reduceMul, Nat.reduceBEq, Nat.reduceBNe, Nat.reduceBneDiff, Nat.reduceBeqDiff, Int.reduceToNat, Int.reduceLE, Int.reduceLT, Int.reduceEq, Int.reduceNe, Int.reduceNeg, Int.reduceAdd, Int.reduceSub, ↓reduceIte, reduceCtorEq]
  repeat' (refine wayK (fun h => ?_) (fun h => ?_) <;> (try simp (maxSteps := 1000000) only [go_sem, acB_merge, Nat.reduceLT, Nat.reduceLeDiff, Nat.reduceEqDiff, Nat.reduceAdd, Nat.reduceSub, Nat.reduceMul, Nat.reduceBEq, Nat.reduceBNe, Nat.reduceBneDiff, Nat.reduceBeqDiff, Int.reduceToNat, Int.reduceLE, Int.reduceLT, Int.reduceEq, Int.reduceNe, Int.reduceNeg, Int.reduceAdd, Int.reduceSub, ↓reduceIte, reduceCtorEq, h]))
  all_goals
    refine leaf ?_
    simp at *
    unfold ar
    repeat' split
    all_goals omega
end Go.Proofs.YtfflfaedghfmdaaDoor
set_option linter.all false
namespace Go.Proofs.YtfflfaedghfmdaaDoor
open Go.Abs
attribute [local congr] ite_congr
set_option maxRecDepth 10000
theorem ifnot {b x : Bool} : (if b = true then false else x) = (!b && x) := by cases b <;> rfl
/-- the cells of an expression -/
abbrev eV (op n : Int) (s : Bytes) (args : List (List Dat)) : AV := .agg [.d (.int .i64 op), .d (.int .i64 n), .d (.str s), .d (.slice args)]
def absentS (op n : Int) (s : Bytes) (len : Nat) : Bool := decide (op = 0) && decide (n = 0) && (s == []) && decide ((len : Int) = 0)
@[go_sem] theorem absent (op n : Int) (s : Bytes) (args : List (List Dat)) (A : AHeap) : acl C 64 [eV op n s args] A = some (.d (.bool (absentS op n s args.length)), A) := by
  rw [k_call (c := C) (f := 64) rfl Tryd.func64 rfl (ok 64 (by kernel_rfl)) rfl Tryd.ntmps64 Tryd.results64 (by simp)]
  simp (maxSteps := 1000000) +contextual only [go_sem, acondK_bool, acB_merge, Nat.reduceLT, Nat.reduceLeDiff, Nat.reduceEqDiff, Nat.reduceAdd, Nat.reduceSub, Nat.reduceMul, Nat.reduceBEq, Nat.reduceBNe, Nat.reduceBneDiff, Nat.reduceBeqDiff, Int.reduceToNat, Int.reduceLE, Int.reduceLT, Int.reduceEq, Int.reduceNe, Int.reduceNeg, Int.reduceAdd, Int.reduceSub, ↓reduceIte, reduceCtorEq, absentS]
def inner (b : UInt8) : Bool := !(decide ((b.toNat : Int) < 32) || decide (126 < (b.toNat : Int)))
def plainS (s : Bytes) : Bool := s.all inner && decide ((s.length : Int) ≤ 64)
@[go_sem] theorem plain (s : Bytes) (A : AHeap) (hl : s.length ≤ 1099511627776) : acl C 76 [.d (.str s)] A = some (.d (.bool (plainS s)), A) := by
  rw [k_call (c := C) (f := 76) rfl Tryd.func76 rfl (ok 76 (by kernel_rfl)) rfl Tryd.ntmps76 Tryd.results76 (by simp)]
  simp (maxSteps := 1000000) +contextual only [go_sem, acondK_bool, acB_merge, Nat.reduceLT, Nat.reduceLeDiff, Nat.reduceEqDiff, Nat.reduceAdd, Nat.reduceSub, Nat.reduceMul, Nat.reduceBEq, Nat.reduceBNe, Nat.reduceBneDiff, Nat.reduceBeqDiff, Int.reduceToNat, Int.reduceLE, Int.reduceLT, Int.reduceEq, Int.reduceNe, Int.reduceNeg, Int.reduceAdd, Int.reduceSub, ↓reduceIte, reduceCtorEq]
  refine loop_list (fun n => [(0, .v (.d (.str s))), (3, .v (.d (.int .i64 (n : Int))))]) (fun pre suf => some (.d (.bool (suf.all inner && decide ((s.length : Int) ≤ 64))), A)) s rfl (by simp [plainS]) ?_
  intro pre suf h ih
  subst h
  have hb : pre.length < 9223372036854775807 := by simp at hl; omega
  cases suf with
  | nil => simp (maxSteps := 1000000) +contextual only [go_sem, acondK_bool, acB_merge, Nat.reduceLT, Nat.reduceLeDiff, Nat.reduceEqDiff, Nat.reduceAdd, Nat.reduceSub, Nat.reduceMul, Nat.reduceBEq, Nat.reduceBNe, Nat.reduceBneDiff, Nat.reduceBeqDiff, Int.reduceToNat, Int.reduceLE, Int.reduceLT, Int.reduceEq, Int.reduceNe, Int.reduceNeg, Int.reduceAdd, Int.reduceSub, ↓reduceIte, reduceCtorEq]
  | cons x suf =>
    simp (maxSteps := 1000000) +contextual only [go_sem, acondK_bool, acB_merge, Nat.reduceLT, Nat.reduceLeDiff, Nat.reduceEqDiff, Nat.reduceAdd, Nat.reduceSub, Nat.reduceMul, Nat.reduceBEq, Nat.reduceBNe, Nat.reduceBneDiff, Nat.reduceBeqDiff, Int.reduceToNat, Int.reduceLE, Int.reduceLT, Int.reduceEq, Int.reduceNe, Int.reduceNeg, Int.reduceAdd, Int.reduceSub, ↓reduceIte, reduceCtorEq, ih x suf rfl, wrap_nat hb]
    refine leafB ?_
    cases hx : inner x <;> simp [hx] <;> simp [inner] at hx <;> omega
@[go_sem] theorem plainR (s : Bytes) (A : AHeap) (hl : s.length ≤ 1099511627776) : acl C 88 [.d (.str s)] A = some (.d (.bool (plainS s)), A) := by
  rw [k_call (c := C) (f := 88) rfl Tryd.func88 rfl (ok 88 (by kernel_rfl)) rfl Tryd.ntmps88 Tryd.results88 (by simp)]
  simp (maxSteps := 1000000) +contextual only [go_sem, acondK_bool, acB_merge, Nat.reduceLT, Nat.reduceLeDiff, Nat.reduceEqDiff, Nat.reduceAdd, Nat.reduceSub, Nat.reduceMul, Nat.reduceBEq, Nat.reduceBNe, Nat.reduceBneDiff, Nat.reduceBeqDiff, Int.reduceToNat, Int.reduceLE, Int.reduceLT, Int.reduceEq, Int.reduceNe, Int.reduceNeg, Int.reduceAdd, Int.reduceSub, ↓reduceIte, reduceCtorEq]
  refine way (fun h => ?_) (fun h => ?_)
  · refine leafB ?_
    simp [plainS] at h ⊢
    intro _
    omega
  refine loop_list (fun n => [(0, .v (.d (.str s))), (3, .v (.d (.int .i64 (n : Int))))]) (fun pre suf => some (.d (.bool (suf.all inner)), A)) s rfl ?_ ?_
  · refine leafB ?_
    simp [plainS] at h ⊢
    intro _
    omega
  intro pre suf h ih
  subst h
  have hb : pre.length < 9223372036854775807 := by simp at hl; omega
  cases suf with
  | nil => simp (maxSteps := 1000000) +contextual only [go_sem, acondK_bool, acB_merge, Nat.reduceLT, Nat.reduceLeDiff, Nat.reduceEqDiff, Nat.reduceAdd, Nat.reduceSub, Nat.reduceMul, Nat.reduceBEq, Nat.reduceBNe, Nat.reduceBneDiff, Nat.reduceBeqDiff, Int.reduceToNat, Int.reduceLE, Int.reduceLT, Int.reduceEq, Int.reduceNe, Int.reduceNeg, Int.reduceAdd, Int.reduceSub, ↓reduceIte, reduceCtorEq]
  | cons x suf =>
    simp (maxSteps := 1000000) +contextual only [go_sem, acondK_bool, acB_merge, Nat.reduceLT, Nat.reduceLeDiff, Nat.reduceEqDiff, Nat.reduceAdd, Nat.reduceSub, Nat.reduceMul, Nat.reduceBEq, Nat.reduceBNe, Nat.reduceBneDiff, Nat.reduceBeqDiff, Int.reduceToNat, Int.reduceLE, Int.reduceLT, Int.reduceEq, Int.reduceNe, Int.reduceNeg, Int.reduceAdd, Int.reduceSub, ↓reduceIte, reduceCtorEq, ih x suf rfl, wrap_nat hb]
    refine leafB ?_
    cases hx : inner x <;> simp [hx] <;> simp [inner] at hx <;> omega
def nodeS (op n : Int) (s : Bytes) (len : Nat) (depth : Int) : Int :=
  if (decide (ar op < 0) || !decide (op = 1) && !decide (n = 0) || !decide (op = 2) && !decide (op = 3) && !(s == [])) = true then 1
  else if (decide (op = 3) && !isName s) = true then 7
  else if (decide (op = 1) && decide (n < 0) || decide (op = 2) && !plainS s || !decide ((len : Int) = ar op)) = true then 1
  else if 12 < depth then 2 else 0
@[go_sem] theorem node (op n depth : Int) (s : Bytes) (args : List (List Dat)) (A : AHeap) (hl : s.length ≤ 1099511627776) : acl C 48 [eV op n s args, .d (.int .i64 depth)] A = some (.d (.int .i64 (nodeS op n s args.length depth)), A) := by
  rw [k_call (c := C) (f := 48) rfl Tryd.func48 rfl (ok 48 (by kernel_rfl)) rfl Tryd.ntmps48 Tryd.results48 (by simp)]
  simp (maxSteps := 1000000) +contextual only [go_sem, acondK_bool, acB_merge, Nat.reduceLT, Nat.reduceLeDiff, Nat.reduceEqDiff, Nat.reduceAdd, Nat.reduceSub, Nat.reduceMul, Nat.reduceBEq, Nat.reduceBNe, Nat.reduceBneDiff, Nat.reduceBeqDiff, Int.reduceToNat, Int.reduceLE, Int.reduceLT, Int.reduceEq, Int.reduceNe, Int.reduceNeg, Int.reduceAdd, Int.reduceSub, ↓reduceIte, reduceCtorEq, hl]
  refine leafI ?_
  simp only [nodeS, ifnot]
  split <;> rename_i h1
  · rfl
  split <;> rename_i h2
  · rfl
  split <;> rename_i h3
  · rfl
  simp
@[go_sem] theorem nodeR (op n depth : Int) (s : Bytes) (args : List (List Dat)) (A : AHeap) (hl : s.length ≤ 1099511627776) : acl C 79 [eV op n s args, .d (.int .i64 depth)] A = some (.d (.int .i64 (nodeS op n s args.length depth)), A) := by
  rw [k_call (c := C) (f := 79) rfl Tryd.func79 rfl (ok 79 (by kernel_rfl)) rfl Tryd.ntmps79 Tryd.results79 (by simp)]
  simp (maxSteps := 1000000) +contextual only [go_sem, acondK_bool, acB_merge, Nat.reduceLT, Nat.reduceLeDiff, Nat.reduceEqDiff, Nat.reduceAdd, Nat.reduceSub, Nat.reduceMul, Nat.reduceBEq, Nat.reduceBNe, Nat.reduceBneDiff, Nat.reduceBeqDiff, Int.reduceToNat, Int.reduceLE, Int.reduceLT, Int.reduceEq, Int.reduceNe, Int.reduceNeg, Int.reduceAdd, Int.reduceSub, ↓reduceIte, reduceCtorEq, hl, k_drawn_q]
  refine leafI ?_
  simp only [nodeS, ifnot]
  split <;> rename_i h1
  · rfl
  split <;> rename_i h2
  · rfl
  have h4 : (decide (n < 0) || decide (op = 2) && !plainS s || !decide ((args.length : Int) = ar op)) = (decide (op = 1) && decide (n < 0) || decide (op = 2) && !plainS s || !decide ((args.length : Int) = ar op)) := by
    congr 2
    simp at h1 ⊢
    omega
  rw [h4]
  split <;> rename_i h3
  · rfl
  simp
end Go.Proofs.YtfflfaedghfmdaaDoor
set_option linter.all false
namespace Go.Proofs.YtfflfaedghfmdaaDoor
open Go.Abs
attribute [local congr] ite_congr
set_option maxRecDepth 10000
/-- the cells of a whole expression -/
abbrev E.av (e : E) : AV := eV e.op e.n e.s (e.args.map E.row)
mutual
def chkE : E → Int → Int
  | .mk op n s args, d => if nodeS op n s args.length d = 0 then chkL args (IntKind.i64.wrap (d + 1)) else nodeS op n s args.length d
def chkL : List E → Int → Int
  | [], _ => 0
  | x :: l, d => if chkE x d = 0 then chkL l d else chkE x d
end
theorem check : ∀ e, E.Ok e → ∀ (d : Int) (A : AHeap), acl C 29 [E.av e, .d (.int .i64 d)] A = some (.d (.int .i64 (chkE e d)), A) := by
  intro e
  induction e using E.ind with
  | h op n s args ih =>
    intro hok d A
    rw [k_call (c := C) (f := 29) rfl Tryd.func29 rfl (ok 29 (by kernel_rfl)) rfl Tryd.ntmps29 Tryd.results29 (by simp)]
    simp (maxSteps := 1000000) +contextual only [go_sem, acondK_bool, acB_merge, Nat.reduceLT, Nat.reduceLeDiff, Nat.reduceEqDiff, Nat.reduceAdd, Nat.reduceSub, Nat.reduceMul, Nat.reduceBEq, Nat.reduceBNe, Nat.reduceBneDiff, Nat.reduceBeqDiff, Int.reduceToNat, Int.reduceLE, Int.reduceLT, Int.reduceEq, Int.reduceNe, Int.reduceNeg, Int.reduceAdd, Int.reduceSub, ↓reduceIte, reduceCtorEq, hok.s]
    refine way (fun h => ?_) (fun h => ?_)
    · refine loop_list (fun i => [(17, .v (.d (.int .i64 (args.length : Nat)))), (16, .v (.d (.slice (args.map E.row)))), (1, .v (.d (.int .i64 d))), (18, .v (.d (.int .i64 (i : Int))))])
        (fun pre suf => some (.d (.int .i64 (chkL suf (IntKind.i64.wrap (d + 1)))), A)) args rfl (by simp at h; simp [chkE, h]) ?_
      intro pre suf hl ih2
      have hb : pre.length < 9223372036854775807 := by have := hok.len; rw [hl] at this; simp at this; omega
      rw [hl]
      cases suf with
      | nil => simp (maxSteps := 1000000) +contextual only [go_sem, acondK_bool, acB_merge, Nat.reduceLT, Nat.reduceLeDiff, Nat.reduceEqDiff, Nat.reduceAdd, Nat.reduceSub, Nat.reduceMul, Nat.reduceBEq, Nat.reduceBNe, Nat.reduceBneDiff, Nat.reduceBeqDiff, Int.reduceToNat, Int.reduceLE, Int.reduceLT, Int.reduceEq, Int.reduceNe, Int.reduceNeg, Int.reduceAdd, Int.reduceSub, ↓reduceIte, reduceCtorEq, chkL]
      | cons x suf =>
        have hx : x ∈ args := by rw [hl]; simp
        have e1 := ih x hx (hok.arg x hx) (IntKind.i64.wrap (d + 1)) A
        have e2 := ih2 x suf rfl
        rw [hl] at e2
        simp only [List.length_append, List.length_cons] at e2
        simp (maxSteps := 1000000) +contextual only [go_sem, acondK_bool, acB_merge, Nat.reduceLT, Nat.reduceLeDiff, Nat.reduceEqDiff, Nat.reduceAdd, Nat.reduceSub, Nat.reduceMul, Nat.reduceBEq, Nat.reduceBNe, Nat.reduceBneDiff, Nat.reduceBeqDiff, Int.reduceToNat, Int.reduceLE, Int.reduceLT, Int.reduceEq, Int.reduceNe, Int.reduceNeg, Int.reduceAdd, Int.reduceSub, ↓reduceIte, reduceCtorEq, E.row_eq, e1, e2, wrap_nat hb, chkL]
        refine leafI ?_
        simp
    · refine leafI ?_
      simp at h
      simp [chkE, h]
mutual
def cntE : E → Int → Int
  | .mk op n s args, m => cntL args (IntKind.i64.wrap (1 + IntKind.i64.wrap (Int.tdiv s.length 64))) m
def cntL : List E → Int → Int → Int
  | [], n, _ => n
  | x :: l, n, m => if n ≤ m then cntL l (IntKind.i64.wrap (n + cntE x (IntKind.i64.wrap (m - n)))) m else n
end
/-- the count behind some operands -/
def cntP : List E → Int → Int → Int
  | [], n, _ => n
  | x :: l, n, m => cntP l (IntKind.i64.wrap (n + cntE x (IntKind.i64.wrap (m - n)))) m
theorem cntP_snoc : ∀ (l : List E) (x : E) (n m : Int), cntP (l ++ [x]) n m = IntKind.i64.wrap (cntP l n m + cntE x (IntKind.i64.wrap (m - cntP l n m)))
  | [], _, _, _ => rfl
  | y :: l, x, n, m => by simp only [List.cons_append, cntP, cntP_snoc l]
theorem valid : ∀ e, E.Ok e → ∀ (d : Int) (A : AHeap), acl C 55 [E.av e, .d (.int .i64 d)] A = some (.d (.int .i64 (chkE e d)), A) := by
  intro e
  induction e using E.ind with
  | h op n s args ih =>
    intro hok d A
    rw [k_call (c := C) (f := 55) rfl Tryd.func55 rfl (ok 55 (by kernel_rfl)) rfl Tryd.ntmps55 Tryd.results55 (by simp)]
    simp (maxSteps := 1000000) +contextual only [go_sem, acondK_bool, acB_merge, Nat.reduceLT, Nat.reduceLeDiff, Nat.reduceEqDiff, Nat.reduceAdd, Nat.reduceSub, Nat.reduceMul, Nat.reduceBEq, Nat.reduceBNe, Nat.reduceBneDiff, Nat.reduceBeqDiff, Int.reduceToNat, Int.reduceLE, Int.reduceLT, Int.reduceEq, Int.reduceNe, Int.reduceNeg, Int.reduceAdd, Int.reduceSub, ↓reduceIte, reduceCtorEq, hok.s]
    refine way (fun h => ?_) (fun h => ?_)
    · refine loop_list (fun i => [(2, .box [.d (.int .i64 op), .d (.int .i64 n), .d (.str s), .d (.slice (args.map E.row))]), (1, .v (.d (.int .i64 d))), (6, .v (.d (.int .i64 (i : Int))))])
        (fun pre suf => some (.d (.int .i64 (chkL suf (IntKind.i64.wrap (d + 1)))), A)) args rfl (by simp at h; simp [chkE, h]) ?_
      intro pre suf hl ih2
      have hb : pre.length < 9223372036854775807 := by have := hok.len; rw [hl] at this; simp at this; omega
      rw [hl]
      cases suf with
      | nil => simp (maxSteps := 1000000) +contextual only [go_sem, acondK_bool, acB_merge, Nat.reduceLT, Nat.reduceLeDiff, Nat.reduceEqDiff, Nat.reduceAdd, Nat.reduceSub, Nat.reduceMul, Nat.reduceBEq, Nat.reduceBNe, Nat.reduceBneDiff, Nat.reduceBeqDiff, Int.reduceToNat, Int.reduceLE, Int.reduceLT, Int.reduceEq, Int.reduceNe, Int.reduceNeg, Int.reduceAdd, Int.reduceSub, ↓reduceIte, reduceCtorEq, chkL]
      | cons x suf =>
        have hx : x ∈ args := by rw [hl]; simp
        have e1 := ih x hx (hok.arg x hx) (IntKind.i64.wrap (d + 1)) A
        have e2 := ih2 x suf rfl
        rw [hl] at e2
        simp (maxSteps := 1000000) +contextual only [go_sem, acondK_bool, acB_merge, Nat.reduceLT, Nat.reduceLeDiff, Nat.reduceEqDiff, Nat.reduceAdd, Nat.reduceSub, Nat.reduceMul, Nat.reduceBEq, Nat.reduceBNe, Nat.reduceBneDiff, Nat.reduceBeqDiff, Int.reduceToNat, Int.reduceLE, Int.reduceLT, Int.reduceEq, Int.reduceNe, Int.reduceNeg, Int.reduceAdd, Int.reduceSub, ↓reduceIte, reduceCtorEq, E.row_eq, e1, e2, wrap_nat hb, chkL]
        refine leafI ?_
        simp
    · refine leafI ?_
      simp at h
      simp [chkE, h]
end Go.Proofs.YtfflfaedghfmdaaDoor
set_option linter.all false
namespace Go.Proofs.YtfflfaedghfmdaaDoor
open Go.Abs
attribute [local congr] ite_congr
set_option maxRecDepth 10000
theorem validExpr (e : E) (hok : E.Ok e) (A : AHeap) : acl C 11 [E.av e] A = some (.d (.int .i64 (chkE e 1)), A) := by
  rw [k_call (c := C) (f := 11) rfl Tryd.func11 rfl (ok 11 (by kernel_rfl)) rfl Tryd.ntmps11 Tryd.results11 (by simp)]
  simp (maxSteps := 1000000) +contextual only [go_sem, acondK_bool, acB_merge, Nat.reduceLT, Nat.reduceLeDiff, Nat.reduceEqDiff, Nat.reduceAdd, Nat.reduceSub, Nat.reduceMul, Nat.reduceBEq, Nat.reduceBNe, Nat.reduceBneDiff, Nat.reduceBeqDiff, Int.reduceToNat, Int.reduceLE, Int.reduceLT, Int.reduceEq, Int.reduceNe, Int.reduceNeg, Int.reduceAdd, Int.reduceSub, ↓reduceIte, reduceCtorEq, check e hok]
theorem validExprR (e : E) (hok : E.Ok e) (A : AHeap) : acl C 33 [E.av e] A = some (.d (.int .i64 (chkE e 1)), A) := by
  rw [k_call (c := C) (f := 33) rfl Tryd.func33 rfl (ok 33 (by kernel_rfl)) rfl Tryd.ntmps33 Tryd.results33 (by simp)]
  simp (maxSteps := 1000000) +contextual only [go_sem, acondK_bool, acB_merge, Nat.reduceLT, Nat.reduceLeDiff, Nat.reduceEqDiff, Nat.reduceAdd, Nat.reduceSub, Nat.reduceMul, Nat.reduceBEq, Nat.reduceBNe, Nat.reduceBneDiff, Nat.reduceBeqDiff, Int.reduceToNat, Int.reduceLE, Int.reduceLT, Int.reduceEq, Int.reduceNe, Int.reduceNeg, Int.reduceAdd, Int.reduceSub, ↓reduceIte, reduceCtorEq, valid e hok]
end Go.Proofs.YtfflfaedghfmdaaDoor
