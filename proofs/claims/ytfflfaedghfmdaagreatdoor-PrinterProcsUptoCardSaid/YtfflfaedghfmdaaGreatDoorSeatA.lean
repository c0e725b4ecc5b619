/- The closed example of chapter 9 runs. -/
import Derived.Test.YtfflfaedghfmdaaGreatDoorFacts
import Derived.Test.YtfflfaedghfmdaaGreatDoorGenD
set_option linter.unusedVariables false
set_option linter.unusedSimpArgs false
set_option linter.all false
set_option linter.deprecated false
set_option linter.all false
namespace Go.Proofs.YtfflfaedghfmdaaGreatDoor
open Go.Abs
set_option maxRecDepth 1000000 in
theorem works0 : acl C0 8 [] A00 = some (.d (.bool true), A00) := bcl_sound (ok := okL.contains) okOf (n := 300) (by kernel_rfl)
theorem works (A : AHeap) : acl C 8 [] A = some (.d (.bool true), A) := by
  rw [acl_ext (c := C) (f := 8) (g := closedFn true) rfl]
  rfl
theorem own : ownKnob Tryz.prog.godebug = none := by kernel_rfl
theorem mixed : C.P.follows .mixedOrders = true := by kernel_rfl
theorem and2 {a b : Bool} (h : a = true) (h' : b = true) : (a && b) = true := by rw [h, h']; rfl
end Go.Proofs.YtfflfaedghfmdaaGreatDoor
set_option linter.all false
set_option linter.unusedSimpArgs false
namespace Go.Proofs.YtfflfaedghfmdaaGreatDoor
open Go.Abs
attribute [local congr] ite_congr
set_option maxRecDepth 10000
theorem leafB {A : AHeap} {a b : Bool} (h : a = b) : some (AV.d (.bool a), A) = some (AV.d (.bool b), A) := by rw [h]
theorem leafI {A : AHeap} {k : IntKind} {a b : Int} (h : a = b) : some (AV.d (.int k a), A) = some (AV.d (.int k b), A) := by rw [h]
@[go_sem] theorem letter (n : Int) (A : AHeap) : acl C 39 [.d (.int .i32 n)] A = some (.d (.bool (decide (97 ≤ n) && decide (n ≤ 122))), A) := by
  rw [k_call (c := C) (f := 39) rfl Tryz.func39 rfl (ok 39 (by kernel_rfl)) rfl Tryz.ntmps39 Tryz.results39 (by simp)]
  simp (maxSteps := 1000000) +contextual only [go_sem, acondK_bool, acB_merge, Nat.reduceLT, Nat.reduceLeDiff, Nat.reduceEqDiff, Nat.reduceAdd, Nat.reduceSub, Nat.reduceMul, Nat.reduceBEq, Nat.reduceBNe, Nat.reduceBneDiff, Nat.reduceBeqDiff, Int.reduceToNat, Int.reduceLE, Int.reduceLT, Int.reduceEq, Int.reduceNe, Int.reduceNeg, Int.reduceAdd, Int.reduceSub, ↓reduceIte, reduceCtorEq, afinR_d]
@[go_sem] theorem letterR (n : Int) (A : AHeap) : acl C 57 [.d (.int .u8 n)] A = some (.d (.bool (decide (97 ≤ n) && decide (n ≤ 122))), A) := by
  rw [k_call (c := C) (f := 57) rfl Tryz.func57 rfl (ok 57 (by kernel_rfl)) rfl Tryz.ntmps57 Tryz.results57 (by simp)]
  simp (maxSteps := 1000000) +contextual only [go_sem, acondK_bool, acB_merge, Nat.reduceLT, Nat.reduceLeDiff, Nat.reduceEqDiff, Nat.reduceAdd, Nat.reduceSub, Nat.reduceMul, Nat.reduceBEq, Nat.reduceBNe, Nat.reduceBneDiff, Nat.reduceBeqDiff, Int.reduceToNat, Int.reduceLE, Int.reduceLT, Int.reduceEq, Int.reduceNe, Int.reduceNeg, Int.reduceAdd, Int.reduceSub, ↓reduceIte, reduceCtorEq, afinR_d]
@[go_sem] theorem digitR (n : Int) (A : AHeap) : acl C 94 [.d (.int .u8 n)] A = some (.d (.bool (decide (48 ≤ n) && decide (n ≤ 57))), A) := by
  rw [k_call (c := C) (f := 94) rfl Tryz.func94 rfl (ok 94 (by kernel_rfl)) rfl Tryz.ntmps94 Tryz.results94 (by simp)]
  simp (maxSteps := 1000000) +contextual only [go_sem, acondK_bool, acB_merge, Nat.reduceLT, Nat.reduceLeDiff, Nat.reduceEqDiff, Nat.reduceAdd, Nat.reduceSub, Nat.reduceMul, Nat.reduceBEq, Nat.reduceBNe, Nat.reduceBneDiff, Nat.reduceBeqDiff, Int.reduceToNat, Int.reduceLE, Int.reduceLT, Int.reduceEq, Int.reduceNe, Int.reduceNeg, Int.reduceAdd, Int.reduceSub, ↓reduceIte, reduceCtorEq, afinR_d]
def part (n : Int) : Bool := decide (97 ≤ n) && decide (n ≤ 122) || (decide (48 ≤ n) && decide (n ≤ 57)) || decide (n = 95)
@[go_sem] theorem partR (n : Int) (A : AHeap) : acl C 79 [.d (.int .u8 n)] A = some (.d (.bool (part n)), A) := by
  rw [k_call (c := C) (f := 79) rfl Tryz.func79 rfl (ok 79 (by kernel_rfl)) rfl Tryz.ntmps79 Tryz.results79 (by simp)]
  simp (maxSteps := 1000000) +contextual only [go_sem, acondK_bool, acB_merge, Nat.reduceLT, Nat.reduceLeDiff, Nat.reduceEqDiff, Nat.reduceAdd, Nat.reduceSub, Nat.reduceMul, Nat.reduceBEq, Nat.reduceBNe, Nat.reduceBneDiff, Nat.reduceBeqDiff, Int.reduceToNat, Int.reduceLE, Int.reduceLT, Int.reduceEq, Int.reduceNe, Int.reduceNeg, Int.reduceAdd, Int.reduceSub, ↓reduceIte, reduceCtorEq, afinR_d, part]
/-- the words that are no names -/
def keywords : List (List UInt8) := [[112, 114, 111, 99], [108, 101, 116], [112, 117, 116], [100, 101, 108, 101, 116, 101], [105, 102], [101, 108, 115, 101], [102, 111, 114], [116, 111], [109, 97, 120], [101, 109, 105, 116], [97, 98, 111, 114, 116], [110, 111, 116], [97, 110, 100], [111, 114], [105, 110, 116], [115, 116, 114], [98, 111, 111, 108], [116, 101, 120, 116], [108, 101, 110], [103, 101, 116, 105, 110, 116], [103, 101, 116, 115, 116, 114], [104, 97, 115], [110, 111, 119], [114, 97, 110, 100, 111, 109], [110, 111, 100, 101]]
@[go_sem] theorem isKeyword (s : List UInt8) (A : AHeap) : acl C 41 [.d (.str s)] A = some (.d (.bool (keywords.contains s)), A) := by
  rw [k_call (c := C) (f := 41) rfl Tryz.func41 rfl (ok 41 (by kernel_rfl)) rfl Tryz.ntmps41 Tryz.results41 (by simp)]
  simp (maxSteps := 1000000) +contextual only [go_sem, acondK_bool, acB_merge, Nat.reduceLT, Nat.reduceLeDiff, Nat.reduceEqDiff, Nat.reduceAdd, Nat.reduceSub, Nat.reduceMul, Nat.reduceBEq, Nat.reduceBNe, Nat.reduceBneDiff, Nat.reduceBeqDiff, Int.reduceToNat, Int.reduceLE, Int.reduceLT, Int.reduceEq, Int.reduceNe, Int.reduceNeg, Int.reduceAdd, Int.reduceSub, ↓reduceIte, reduceCtorEq, keywords]
@[go_sem] theorem keywordsR (A : AHeap) : acl C 81 [] A = some (.d (.slice (keywords.map fun k => [.str k])), A) := by
  rw [k_call (c := C) (f := 81) rfl Tryz.func81 rfl (ok 81 (by kernel_rfl)) rfl Tryz.ntmps81 Tryz.results81 (by simp)]
  simp (maxSteps := 1000000) +contextual only [go_sem, acondK_bool, acB_merge, Nat.reduceLT, Nat.reduceLeDiff, Nat.reduceEqDiff, Nat.reduceAdd, Nat.reduceSub, Nat.reduceMul, Nat.reduceBEq, Nat.reduceBNe, Nat.reduceBneDiff, Nat.reduceBeqDiff, Int.reduceToNat, Int.reduceLE, Int.reduceLT, Int.reduceEq, Int.reduceNe, Int.reduceNeg, Int.reduceAdd, Int.reduceSub, ↓reduceIte, reduceCtorEq, keywords]
@[go_sem] theorem hasR (l : List (List UInt8)) (s : List UInt8) (A : AHeap) (hl : l.length ≤ 1099511627776) : acl C 80 [.d (.slice (l.map fun k => [.str k])), .d (.str s)] A = some (.d (.bool (l.any (· == s))), A) := by
  rw [k_call (c := C) (f := 80) rfl Tryz.func80 rfl (ok 80 (by kernel_rfl)) rfl Tryz.ntmps80 Tryz.results80 (by simp)]
  simp (maxSteps := 1000000) +contextual only [go_sem, acondK_bool, acB_merge, Nat.reduceLT, Nat.reduceLeDiff, Nat.reduceEqDiff, Nat.reduceAdd, Nat.reduceSub, Nat.reduceMul, Nat.reduceBEq, Nat.reduceBNe, Nat.reduceBneDiff, Nat.reduceBeqDiff, Int.reduceToNat, Int.reduceLE, Int.reduceLT, Int.reduceEq, Int.reduceNe, Int.reduceNeg, Int.reduceAdd, Int.reduceSub, ↓reduceIte, reduceCtorEq]
  refine loop_list (fun n => [(0, .v (.d (.slice (l.map fun k => [.str k])))), (1, .v (.d (.str s))), (5, .v (.d (.int .i64 (n : Int))))]) (fun pre suf => some (.d (.bool (suf.any (· == s))), A)) l rfl rfl ?_
  intro pre suf h ih
  subst h
  have hb : pre.length < 9223372036854775807 := by simp at hl; omega
  cases suf with
  | nil => simp (maxSteps := 1000000) +contextual only [go_sem, acondK_bool, acB_merge, Nat.reduceLT, Nat.reduceLeDiff, Nat.reduceEqDiff, Nat.reduceAdd, Nat.reduceSub, Nat.reduceMul, Nat.reduceBEq, Nat.reduceBNe, Nat.reduceBneDiff, Nat.reduceBeqDiff, Int.reduceToNat, Int.reduceLE, Int.reduceLT, Int.reduceEq, Int.reduceNe, Int.reduceNeg, Int.reduceAdd, Int.reduceSub, ↓reduceIte, reduceCtorEq, List.any_nil]
  | cons x suf => simp (maxSteps := 1000000) +contextual only [go_sem, acondK_bool, acB_merge, Nat.reduceLT, Nat.reduceLeDiff, Nat.reduceEqDiff, Nat.reduceAdd, Nat.reduceSub, Nat.reduceMul, Nat.reduceBEq, Nat.reduceBNe, Nat.reduceBneDiff, Nat.reduceBeqDiff, Int.reduceToNat, Int.reduceLE, Int.reduceLT, Int.reduceEq, Int.reduceNe, Int.reduceNeg, Int.reduceAdd, Int.reduceSub, ↓reduceIte, reduceCtorEq, ih x suf rfl, wrap_nat hb, List.any_cons]
/-- how long the word is with which a text begins -/
def wlen : List UInt8 → Nat
  | [] => 0
  | b :: l => if part (b.toNat : Int) = true then wlen l + 1 else 0
theorem wlen_le : ∀ l, wlen l ≤ l.length
  | [] => Nat.le_refl _
  | b :: l => by
    have := wlen_le l
    unfold wlen
    split <;> simp <;> omega
@[go_sem] theorem word (s : List UInt8) (A : AHeap) (hl : s.length ≤ 1099511627776) : acl C 40 [.d (.str s)] A = some (.d (.int .i64 (wlen s : Nat)), A) := by
  rw [k_call (c := C) (f := 40) rfl Tryz.func40 rfl (ok 40 (by kernel_rfl)) rfl Tryz.ntmps40 Tryz.results40 (by simp)]
  simp (maxSteps := 1000000) +contextual only [go_sem, acondK_bool, acB_merge, Nat.reduceLT, Nat.reduceLeDiff, Nat.reduceEqDiff, Nat.reduceAdd, Nat.reduceSub, Nat.reduceMul, Nat.reduceBEq, Nat.reduceBNe, Nat.reduceBneDiff, Nat.reduceBeqDiff, Int.reduceToNat, Int.reduceLE, Int.reduceLT, Int.reduceEq, Int.reduceNe, Int.reduceNeg, Int.reduceAdd, Int.reduceSub, ↓reduceIte, reduceCtorEq]
  refine loop_any (fun _ => [(6, .v (.ptr A.objs.length 0)), (0, .v (.d (.str s)))]) (fun pre => ⟨A.objs ++ [.iter s pre.length], A.bufs⟩) (fun pre suf => some (.d (.int .i64 ((pre.length + wlen suf : Nat) : Int)), A)) s rfl rfl (by simp) ?_
  intro pre suf h ih
  subst h
  cases suf with
  | nil => simp (maxSteps := 1000000) +contextual only [go_sem, acondK_bool, acB_merge, Nat.reduceLT, Nat.reduceLeDiff, Nat.reduceEqDiff, Nat.reduceAdd, Nat.reduceSub, Nat.reduceMul, Nat.reduceBEq, Nat.reduceBNe, Nat.reduceBneDiff, Nat.reduceBeqDiff, Int.reduceToNat, Int.reduceLE, Int.reduceLT, Int.reduceEq, Int.reduceNe, Int.reduceNeg, Int.reduceAdd, Int.reduceSub, ↓reduceIte, reduceCtorEq, anextO_end, wlen]
  | cons x suf =>
    rcases Nat.lt_or_ge x.toNat 128 with hx | hx
    · have e : pre.length + 1 = (pre ++ [x]).length := by simp
      have ih' := ih x suf rfl
      rw [← e] at ih'
      simp (maxSteps := 1000000) +contextual only [go_sem, acondK_bool, acB_merge, Nat.reduceLT, Nat.reduceLeDiff, Nat.reduceEqDiff, Nat.reduceAdd, Nat.reduceSub, Nat.reduceMul, Nat.reduceBEq, Nat.reduceBNe, Nat.reduceBneDiff, Nat.reduceBeqDiff, Int.reduceToNat, Int.reduceLE, Int.reduceLT, Int.reduceEq, Int.reduceNe, Int.reduceNeg, Int.reduceAdd, Int.reduceSub, ↓reduceIte, reduceCtorEq, anextO_low hx, ih']
      refine leafI ?_
      clear ih ih'
      cases hp : part (x.toNat : Int) <;> simp only [wlen, hp, if_true, Bool.false_eq_true, if_false] <;> simp [part] at hp
      all_goals
        repeat' split
        all_goals simp at *
        all_goals omega
    · obtain ⟨r, w, hr, hn⟩ := anextO_high (A := ⟨A.objs ++ [.iter (pre ++ x :: suf) pre.length], A.bufs⟩) (id := A.objs.length) (pre := pre) (suf := suf) hx
      have h1 : decide ((r : Int) ≤ 122) = false := by simp; omega
      have h2 : decide ((r : Int) = 95) = false := by simp; omega
      have h3 : decide ((57 : Int) < (r : Int)) = true := by simp; omega
      have h4 : part (x.toNat : Int) = false := by simp [part]; omega
      simp (maxSteps := 1000000) +contextual only [go_sem, acondK_bool, acB_merge, Nat.reduceLT, Nat.reduceLeDiff, Nat.reduceEqDiff, Nat.reduceAdd, Nat.reduceSub, Nat.reduceMul, Nat.reduceBEq, Nat.reduceBNe, Nat.reduceBneDiff, Nat.reduceBeqDiff, Int.reduceToNat, Int.reduceLE, Int.reduceLT, Int.reduceEq, Int.reduceNe, Int.reduceNeg, Int.reduceAdd, Int.reduceSub, ↓reduceIte, reduceCtorEq, hn, h1, h2, h3, h4, wlen]
@[go_sem] theorem wordR (s : List UInt8) (A : AHeap) (hl : s.length ≤ 1099511627776) : acl C 58 [.d (.str s), .d (.int .i64 0)] A = some (.d (.int .i64 (wlen s : Nat)), A) := by
  rw [k_call (c := C) (f := 58) rfl Tryz.func58 rfl (ok 58 (by kernel_rfl)) rfl Tryz.ntmps58 Tryz.results58 (by simp)]
  simp (maxSteps := 1000000) +contextual only [go_sem, acondK_bool, acB_merge, Nat.reduceLT, Nat.reduceLeDiff, Nat.reduceEqDiff, Nat.reduceAdd, Nat.reduceSub, Nat.reduceMul, Nat.reduceBEq, Nat.reduceBNe, Nat.reduceBneDiff, Nat.reduceBeqDiff, Int.reduceToNat, Int.reduceLE, Int.reduceLT, Int.reduceEq, Int.reduceNe, Int.reduceNeg, Int.reduceAdd, Int.reduceSub, ↓reduceIte, reduceCtorEq]
  refine loop_list (fun n => [(1, .v (.d (.int .i64 (n : Int)))), (0, .v (.d (.str s)))]) (fun pre suf => some (.d (.int .i64 ((pre.length + wlen suf : Nat) : Int)), A)) s rfl (by simp) ?_
  intro pre suf h ih
  subst h
  have hb : pre.length < 9223372036854775807 := by simp at hl; omega
  cases suf with
  | nil => simp (maxSteps := 1000000) +contextual only [go_sem, acondK_bool, acB_merge, Nat.reduceLT, Nat.reduceLeDiff, Nat.reduceEqDiff, Nat.reduceAdd, Nat.reduceSub, Nat.reduceMul, Nat.reduceBEq, Nat.reduceBNe, Nat.reduceBneDiff, Nat.reduceBeqDiff, Int.reduceToNat, Int.reduceLE, Int.reduceLT, Int.reduceEq, Int.reduceNe, Int.reduceNeg, Int.reduceAdd, Int.reduceSub, ↓reduceIte, reduceCtorEq, wlen]
  | cons x suf =>
    simp (maxSteps := 1000000) +contextual only [go_sem, acondK_bool, acB_merge, Nat.reduceLT, Nat.reduceLeDiff, Nat.reduceEqDiff, Nat.reduceAdd, Nat.reduceSub, Nat.reduceMul, Nat.reduceBEq, Nat.reduceBNe, Nat.reduceBneDiff, Nat.reduceBeqDiff, Int.reduceToNat, Int.reduceLE, Int.reduceLT, Int.reduceEq, Int.reduceNe, Int.reduceNeg, Int.reduceAdd, Int.reduceSub, ↓reduceIte, reduceCtorEq, ih x suf rfl, wrap_nat hb]
    refine leafI ?_
    simp only [wlen]
    split <;> simp <;> omega
/-- a name -/
def isName (s : List UInt8) : Bool := match s with
  | [] => false
  | b :: l => decide (((b :: l).length : Int) ≤ 16) && (decide (97 ≤ (b.toNat : Int)) && decide ((b.toNat : Int) ≤ 122)) && decide ((wlen (b :: l) : Int) = ((b :: l).length : Int)) && !keywords.contains (b :: l)
@[go_sem] theorem isName_eq (s : List UInt8) (A : AHeap) (hl : s.length ≤ 1099511627776) : acl C 22 [.d (.str s)] A = some (.d (.bool (isName s)), A) := by
  rw [k_call (c := C) (f := 22) rfl Tryz.func22 rfl (ok 22 (by kernel_rfl)) rfl Tryz.ntmps22 Tryz.results22 (by simp)]
  cases s with
  | nil => simp (maxSteps := 1000000) +contextual only [go_sem, acondK_bool, acB_merge, Nat.reduceLT, Nat.reduceLeDiff, Nat.reduceEqDiff, Nat.reduceAdd, Nat.reduceSub, Nat.reduceMul, Nat.reduceBEq, Nat.reduceBNe, Nat.reduceBneDiff, Nat.reduceBeqDiff, Int.reduceToNat, Int.reduceLE, Int.reduceLT, Int.reduceEq, Int.reduceNe, Int.reduceNeg, Int.reduceAdd, Int.reduceSub, ↓reduceIte, reduceCtorEq, isName]
  | cons b l =>
    simp only [List.length_cons] at hl
    simp (maxSteps := 1000000) +contextual only [go_sem, acondK_bool, acB_merge, Nat.reduceLT, Nat.reduceLeDiff, Nat.reduceEqDiff, Nat.reduceAdd, Nat.reduceSub, Nat.reduceMul, Nat.reduceBEq, Nat.reduceBNe, Nat.reduceBneDiff, Nat.reduceBeqDiff, Int.reduceToNat, Int.reduceLE, Int.reduceLT, Int.reduceEq, Int.reduceNe, Int.reduceNeg, Int.reduceAdd, Int.reduceSub, ↓reduceIte, reduceCtorEq, isName, hl]
@[go_sem] theorem isKeywordR (s : List UInt8) (A : AHeap) : acl C 59 [.d (.str s)] A = some (.d (.bool (keywords.contains s)), A) := by
  rw [k_call (c := C) (f := 59) rfl Tryz.func59 rfl (ok 59 (by kernel_rfl)) rfl Tryz.ntmps59 Tryz.results59 (by simp)]
  have h : keywords.length ≤ 1099511627776 := by simp [keywords]
  simp (maxSteps := 1000000) +contextual only [go_sem, acondK_bool, acB_merge, Nat.reduceLT, Nat.reduceLeDiff, Nat.reduceEqDiff, Nat.reduceAdd, Nat.reduceSub, Nat.reduceMul, Nat.reduceBEq, Nat.reduceBNe, Nat.reduceBneDiff, Nat.reduceBeqDiff, Int.reduceToNat, Int.reduceLE, Int.reduceLT, Int.reduceEq, Int.reduceNe, Int.reduceNeg, Int.reduceAdd, Int.reduceSub, ↓reduceIte, reduceCtorEq, h, any_eq]
@[go_sem] theorem isNameR (s : List UInt8) (A : AHeap) (hl : s.length ≤ 1099511627776) : acl C 32 [.d (.str s)] A = some (.d (.bool (isName s)), A) := by
  rw [k_call (c := C) (f := 32) rfl Tryz.func32 rfl (ok 32 (by kernel_rfl)) rfl Tryz.ntmps32 Tryz.results32 (by simp)]
  cases s with
  | nil => simp (maxSteps := 1000000) +contextual only [go_sem, acondK_bool, acB_merge, Nat.reduceLT, Nat.reduceLeDiff, Nat.reduceEqDiff, Nat.reduceAdd, Nat.reduceSub, Nat.reduceMul, Nat.reduceBEq, Nat.reduceBNe, Nat.reduceBneDiff, Nat.reduceBeqDiff, Int.reduceToNat, Int.reduceLE, Int.reduceLT, Int.reduceEq, Int.reduceNe, Int.reduceNeg, Int.reduceAdd, Int.reduceSub, ↓reduceIte, reduceCtorEq, isName]
  | cons b l =>
    simp only [List.length_cons] at hl
    simp (maxSteps := 1000000) +contextual only [go_sem, acondK_bool, acB_merge, Nat.reduceLT, Nat.reduceLeDiff, Nat.reduceEqDiff, Nat.reduceAdd, Nat.reduceSub, Nat.reduceMul, Nat.reduceBEq, Nat.reduceBNe, Nat.reduceBneDiff, Nat.reduceBeqDiff, Int.reduceToNat, Int.reduceLE, Int.reduceLT, Int.reduceEq, Int.reduceNe, Int.reduceNeg, Int.reduceAdd, Int.reduceSub, ↓reduceIte, reduceCtorEq, isName, hl]
end Go.Proofs.YtfflfaedghfmdaaGreatDoor
namespace Go.Proofs.YtfflfaedghfmdaaGreatDoor
open Go.Abs
attribute [local congr] ite_congr
/-- how many operands -/
def ar (n : Int) : Int := if n < 1 ∨ 27 < n then -1 else if n ≤ 3 ∨ 25 ≤ n then 0 else if n = 9 ∨ n = 18 ∨ 20 ≤ n then 1 else 2
theorem leaf {A : AHeap} {a b : Int} (h : a = b) : some (AV.d (.int .i64 a), A) = some (AV.d (.int .i64 b), A) := by rw [h]
set_option maxRecDepth 100000 in
@[go_sem] theorem arity (n : Int) (A : AHeap) : acl C 97 [.d (.int .i64 n)] A = some (.d (.int .i64 (ar n)), A) := by
  rw [k_call (c := C) (f := 97) rfl Tryz.func97 rfl (ok 97 (by kernel_rfl)) rfl Tryz.ntmps97 Tryz.results97 (by simp)]
  simp (maxSteps := 1000000) +contextual only [go_sem, acondK_bool, Nat.reduceLT, Nat.reduceLeDiff, Nat.reduceEqDiff, Nat.reduceAdd, Nat.reduceSub, Nat.reduceMul, Nat.reduceBEq, Nat.reduceBNe, Nat.reduceBneDiff, Nat.reduceBeqDiff, Int.reduceToNat, Int.reduceLE, Int.reduceLT, Int.reduceEq, Int.reduceNe, Int.reduceNeg, Int.reduceAdd, Int.reduceSub, ↓reduceIte, reduceCtorEq]
  repeat' (refine way (fun h => ?_) (fun h => ?_))
  all_goals
    refine leaf ?_
    simp at *
    unfold ar
    repeat' split
    all_goals omega
set_option maxRecDepth 100000 in
@[go_sem] theorem arityR (n : Int) (A : AHeap) : acl C 100 [.d (.int .i64 n)] A = some (.d (.int .i64 (ar n)), A) := by
  rw [k_call (c := C) (f := 100) rfl Tryz.func100 rfl (ok 100 (by kernel_rfl)) rfl Tryz.ntmps100 Tryz.results100 (by simp)]
  simp (maxSteps := 1000000) only [go_sem, acB_merge, Nat.reduceLT, Nat.reduceLeDiff, Nat.reduceEqDiff, Nat.reduceAdd, Nat.reduceSub, Nat.reduceMul, Nat.reduceBEq, Nat.reduceBNe, Nat.reduceBneDiff, Nat.reduceBeqDiff, Int.reduceToNat, Int.reduceLE, Int.reduceLT, Int.reduceEq, Int.reduceNe, Int.reduceNeg, Int.reduceAdd, Int.reduceSub, ↓reduceIte, reduceCtorEq]
  repeat' (refine wayK (fun h => ?_) (fun h => ?_) <;> (try simp (maxSteps := 1000000) only [go_sem, acB_merge, Nat.reduceLT, Nat.reduceLeDiff, Nat.reduceEqDiff, Nat.reduceAdd, Nat.reduceSub, Nat.reduceMul, Nat.reduceBEq, Nat.reduceBNe, Nat.reduceBneDiff, Nat.reduceBeqDiff, Int.reduceToNat, Int.reduceLE, Int.reduceLT, Int.reduceEq, Int.reduceNe, Int.reduceNeg, Int.reduceAdd, Int.reduceSub, ↓reduceIte, reduceCtorEq, h]))
  all_goals
    refine leaf ?_
    simp at *
    unfold ar
    repeat' split
    all_goals omega
end Go.Proofs.YtfflfaedghfmdaaGreatDoor
set_option linter.all false
namespace Go.Proofs.YtfflfaedghfmdaaGreatDoor
open Go.Abs
attribute [local congr] ite_congr
set_option maxRecDepth 10000
theorem ifnot {b x : Bool} : (if b = true then false else x) = (!b && x) := by cases b <;> rfl
/-- the cells of an expression -/
abbrev eV (op n : Int) (s : Bytes) (args : List (List Dat)) : AV := .agg [.d (.int .i64 op), .d (.int .i64 n), .d (.str s), .d (.slice args)]
def absentS (op n : Int) (s : Bytes) (len : Nat) : Bool := decide (op = 0) && decide (n = 0) && (s == []) && decide ((len : Int) = 0)
@[go_sem] theorem absent (op n : Int) (s : Bytes) (args : List (List Dat)) (A : AHeap) : acl C 76 [eV op n s args] A = some (.d (.bool (absentS op n s args.length)), A) := by
  rw [k_call (c := C) (f := 76) rfl Tryz.func76 rfl (ok 76 (by kernel_rfl)) rfl Tryz.ntmps76 Tryz.results76 (by simp)]
  simp (maxSteps := 1000000) +contextual only [go_sem, acondK_bool, acB_merge, Nat.reduceLT, Nat.reduceLeDiff, Nat.reduceEqDiff, Nat.reduceAdd, Nat.reduceSub, Nat.reduceMul, Nat.reduceBEq, Nat.reduceBNe, Nat.reduceBneDiff, Nat.reduceBeqDiff, Int.reduceToNat, Int.reduceLE, Int.reduceLT, Int.reduceEq, Int.reduceNe, Int.reduceNeg, Int.reduceAdd, Int.reduceSub, ↓reduceIte, reduceCtorEq, absentS]
@[go_sem] theorem absentR (op n : Int) (s : Bytes) (args : List (List Dat)) (A : AHeap) : acl C 62 [eV op n s args] A = some (.d (.bool (absentS op n s args.length)), A) := by
  rw [k_call (c := C) (f := 62) rfl Tryz.func62 rfl (ok 62 (by kernel_rfl)) rfl Tryz.ntmps62 Tryz.results62 (by simp)]
  simp (maxSteps := 1000000) +contextual only [go_sem, acondK_bool, acB_merge, Nat.reduceLT, Nat.reduceLeDiff, Nat.reduceEqDiff, Nat.reduceAdd, Nat.reduceSub, Nat.reduceMul, Nat.reduceBEq, Nat.reduceBNe, Nat.reduceBneDiff, Nat.reduceBeqDiff, Int.reduceToNat, Int.reduceLE, Int.reduceLT, Int.reduceEq, Int.reduceNe, Int.reduceNeg, Int.reduceAdd, Int.reduceSub, ↓reduceIte, reduceCtorEq, absentS]
def inner (b : UInt8) : Bool := !(decide ((b.toNat : Int) < 32) || decide (126 < (b.toNat : Int)))
def plainS (s : Bytes) : Bool := s.all inner && decide ((s.length : Int) ≤ 64)
@[go_sem] theorem plain (s : Bytes) (A : AHeap) (hl : s.length ≤ 1099511627776) : acl C 98 [.d (.str s)] A = some (.d (.bool (plainS s)), A) := by
  rw [k_call (c := C) (f := 98) rfl Tryz.func98 rfl (ok 98 (by kernel_rfl)) rfl Tryz.ntmps98 Tryz.results98 (by simp)]
  simp (maxSteps := 1000000) +contextual only [go_sem, acondK_bool, acB_merge, Nat.reduceLT, Nat.reduceLeDiff, Nat.reduceEqDiff, Nat.reduceAdd, Nat.reduceSub, Nat.reduceMul, Nat.reduceBEq, Nat.reduceBNe, Nat.reduceBneDiff, Nat.reduceBeqDiff, Int.reduceToNat, Int.reduceLE, Int.reduceLT, Int.reduceEq, Int.reduceNe, Int.reduceNeg, Int.reduceAdd, Int.reduceSub, ↓reduceIte, reduceCtorEq]
  refine loop_list (fun n => [(0, .v (.d (.str s))), (3, .v (.d (.int .i64 (n : Int))))]) (fun pre suf => some (.d (.bool (suf.all inner && decide ((s.length : Int) ≤ 64))), A)) s rfl (by simp [plainS]) ?_
  intro pre suf h ih
  subst h
  have hb : pre.length < 9223372036854775807 := by simp at hl; omega
  cases suf with
  | nil => simp (maxSteps := 1000000) +contextual only [go_sem, acondK_bool, acB_merge, Nat.reduceLT, Nat.reduceLeDiff, Nat.reduceEqDiff, Nat.reduceAdd, Nat.reduceSub, Nat.reduceMul, Nat.reduceBEq, Nat.reduceBNe, Nat.reduceBneDiff, Nat.reduceBeqDiff, Int.reduceToNat, Int.reduceLE, Int.reduceLT, Int.reduceEq, Int.reduceNe, Int.reduceNeg, Int.reduceAdd, Int.reduceSub, ↓reduceIte, reduceCtorEq]
  | cons x suf =>
    simp (maxSteps := 1000000) +contextual only [go_sem, acondK_bool, acB_merge, Nat.reduceLT, Nat.reduceLeDiff, Nat.reduceEqDiff, Nat.reduceAdd, Nat.reduceSub, Nat.reduceMul, Nat.reduceBEq, Nat.reduceBNe, Nat.reduceBneDiff, Nat.reduceBeqDiff, Int.reduceToNat, Int.reduceLE, Int.reduceLT, Int.reduceEq, Int.reduceNe, Int.reduceNeg, Int.reduceAdd, Int.reduceSub, ↓reduceIte, reduceCtorEq, ih x suf rfl, wrap_nat hb]
    refine leafB ?_
    cases hx : inner x <;> simp [hx] <;> simp [inner] at hx <;> omega
@[go_sem] theorem plainR (s : Bytes) (A : AHeap) (hl : s.length ≤ 1099511627776) : acl C 101 [.d (.str s)] A = some (.d (.bool (plainS s)), A) := by
  rw [k_call (c := C) (f := 101) rfl Tryz.func101 rfl (ok 101 (by kernel_rfl)) rfl Tryz.ntmps101 Tryz.results101 (by simp)]
  simp (maxSteps := 1000000) +contextual only [go_sem, acondK_bool, acB_merge, Nat.reduceLT, Nat.reduceLeDiff, Nat.reduceEqDiff, Nat.reduceAdd, Nat.reduceSub, Nat.reduceMul, Nat.reduceBEq, Nat.reduceBNe, Nat.reduceBneDiff, Nat.reduceBeqDiff, Int.reduceToNat, Int.reduceLE, Int.reduceLT, Int.reduceEq, Int.reduceNe, Int.reduceNeg, Int.reduceAdd, Int.reduceSub, ↓reduceIte, reduceCtorEq]
  refine way (fun h => ?_) (fun h => ?_)
  · refine leafB ?_
    simp [plainS] at h ⊢
    intro _
    omega
  refine loop_list (fun n => [(0, .v (.d (.str s))), (3, .v (.d (.int .i64 (n : Int))))]) (fun pre suf => some (.d (.bool (suf.all inner)), A)) s rfl ?_ ?_
  · refine leafB ?_
    simp [plainS] at h ⊢
    intro _
    omega
  intro pre suf h ih
  subst h
  have hb : pre.length < 9223372036854775807 := by simp at hl; omega
  cases suf with
  | nil => simp (maxSteps := 1000000) +contextual only [go_sem, acondK_bool, acB_merge, Nat.reduceLT, Nat.reduceLeDiff, Nat.reduceEqDiff, Nat.reduceAdd, Nat.reduceSub, Nat.reduceMul, Nat.reduceBEq, Nat.reduceBNe, Nat.reduceBneDiff, Nat.reduceBeqDiff, Int.reduceToNat, Int.reduceLE, Int.reduceLT, Int.reduceEq, Int.reduceNe, Int.reduceNeg, Int.reduceAdd, Int.reduceSub, ↓reduceIte, reduceCtorEq]
  | cons x suf =>
    simp (maxSteps := 1000000) +contextual only [go_sem, acondK_bool, acB_merge, Nat.reduceLT, Nat.reduceLeDiff, Nat.reduceEqDiff, Nat.reduceAdd, Nat.reduceSub, Nat.reduceMul, Nat.reduceBEq, Nat.reduceBNe, Nat.reduceBneDiff, Nat.reduceBeqDiff, Int.reduceToNat, Int.reduceLE, Int.reduceLT, Int.reduceEq, Int.reduceNe, Int.reduceNeg, Int.reduceAdd, Int.reduceSub, ↓reduceIte, reduceCtorEq, ih x suf rfl, wrap_nat hb]
    refine leafB ?_
    cases hx : inner x <;> simp [hx] <;> simp [inner] at hx <;> omega
def nodeS (op n : Int) (s : Bytes) (len : Nat) (depth : Int) : Int :=
  if (decide (ar op < 0) || !decide (op = 1) && !decide (n = 0) || !decide (op = 2) && !decide (op = 3) && !(s == [])) = true then 1
  else if (decide (op = 3) && !isName s) = true then 7
  else if (decide (op = 1) && decide (n < 0) || decide (op = 2) && !plainS s || !decide ((len : Int) = ar op)) = true then 1
  else if 12 < depth then 2 else 0
@[go_sem] theorem node (op n depth : Int) (s : Bytes) (args : List (List Dat)) (A : AHeap) (hl : s.length ≤ 1099511627776) : acl C 90 [eV op n s args, .d (.int .i64 depth)] A = some (.d (.int .i64 (nodeS op n s args.length depth)), A) := by
  rw [k_call (c := C) (f := 90) rfl Tryz.func90 rfl (ok 90 (by kernel_rfl)) rfl Tryz.ntmps90 Tryz.results90 (by simp)]
  simp (maxSteps := 1000000) +contextual only [go_sem, acondK_bool, acB_merge, Nat.reduceLT, Nat.reduceLeDiff, Nat.reduceEqDiff, Nat.reduceAdd, Nat.reduceSub, Nat.reduceMul, Nat.reduceBEq, Nat.reduceBNe, Nat.reduceBneDiff, Nat.reduceBeqDiff, Int.reduceToNat, Int.reduceLE, Int.reduceLT, Int.reduceEq, Int.reduceNe, Int.reduceNeg, Int.reduceAdd, Int.reduceSub, ↓reduceIte, reduceCtorEq, hl]
  refine leafI ?_
  simp only [nodeS, ifnot]
  split <;> rename_i h1
  · rfl
  split <;> rename_i h2
  · rfl
  split <;> rename_i h3
  · rfl
  simp
@[go_sem] theorem nodeR (op n depth : Int) (s : Bytes) (args : List (List Dat)) (A : AHeap) (hl : s.length ≤ 1099511627776) : acl C 95 [eV op n s args, .d (.int .i64 depth)] A = some (.d (.int .i64 (nodeS op n s args.length depth)), A) := by
  rw [k_call (c := C) (f := 95) rfl Tryz.func95 rfl (ok 95 (by kernel_rfl)) rfl Tryz.ntmps95 Tryz.results95 (by simp)]
  simp (maxSteps := 1000000) +contextual only [go_sem, acondK_bool, acB_merge, Nat.reduceLT, Nat.reduceLeDiff, Nat.reduceEqDiff, Nat.reduceAdd, Nat.reduceSub, Nat.reduceMul, Nat.reduceBEq, Nat.reduceBNe, Nat.reduceBneDiff, Nat.reduceBeqDiff, Int.reduceToNat, Int.reduceLE, Int.reduceLT, Int.reduceEq, Int.reduceNe, Int.reduceNeg, Int.reduceAdd, Int.reduceSub, ↓reduceIte, reduceCtorEq, hl, k_drawn_q]
  refine leafI ?_
  simp only [nodeS, ifnot]
  split <;> rename_i h1
  · rfl
  split <;> rename_i h2
  · rfl
  have h4 : (decide (n < 0) || decide (op = 2) && !plainS s || !decide ((args.length : Int) = ar op)) = (decide (op = 1) && decide (n < 0) || decide (op = 2) && !plainS s || !decide ((args.length : Int) = ar op)) := by
    congr 2
    simp at h1 ⊢
    omega
  rw [h4]
  split <;> rename_i h3
  · rfl
  simp
end Go.Proofs.YtfflfaedghfmdaaGreatDoor
set_option linter.all false
namespace Go.Proofs.YtfflfaedghfmdaaGreatDoor
open Go.Abs
attribute [local congr] ite_congr
set_option maxRecDepth 10000
/-- the cells of a whole expression -/
abbrev E.av (e : E) : AV := eV e.op e.n e.s (e.args.map E.row)
mutual
def chkE : E → Int → Int
  | .mk op n s args, d => if nodeS op n s args.length d = 0 then chkL args (IntKind.i64.wrap (d + 1)) else nodeS op n s args.length d
def chkL : List E → Int → Int
  | [], _ => 0
  | x :: l, d => if chkE x d = 0 then chkL l d else chkE x d
end
theorem check : ∀ e, E.Ok e → ∀ (d : Int) (A : AHeap), acl C 67 [E.av e, .d (.int .i64 d)] A = some (.d (.int .i64 (chkE e d)), A) := by
  intro e
  induction e using E.ind with
  | h op n s args ih =>
    intro hok d A
    rw [k_call (c := C) (f := 67) rfl Tryz.func67 rfl (ok 67 (by kernel_rfl)) rfl Tryz.ntmps67 Tryz.results67 (by simp)]
    simp (maxSteps := 1000000) +contextual only [go_sem, acondK_bool, acB_merge, Nat.reduceLT, Nat.reduceLeDiff, Nat.reduceEqDiff, Nat.reduceAdd, Nat.reduceSub, Nat.reduceMul, Nat.reduceBEq, Nat.reduceBNe, Nat.reduceBneDiff, Nat.reduceBeqDiff, Int.reduceToNat, Int.reduceLE, Int.reduceLT, Int.reduceEq, Int.reduceNe, Int.reduceNeg, Int.reduceAdd, Int.reduceSub, ↓reduceIte, reduceCtorEq, hok.s]
    refine way (fun h => ?_) (fun h => ?_)
    · refine loop_list (fun i => [(17, .v (.d (.int .i64 (args.length : Nat)))), (16, .v (.d (.slice (args.map E.row)))), (1, .v (.d (.int .i64 d))), (18, .v (.d (.int .i64 (i : Int))))])
        (fun pre suf => some (.d (.int .i64 (chkL suf (IntKind.i64.wrap (d + 1)))), A)) args rfl (by simp at h; simp [chkE, h]) ?_
      intro pre suf hl ih2
      have hb : pre.length < 9223372036854775807 := by have := hok.len; rw [hl] at this; simp at this; omega
      rw [hl]
      cases suf with
      | nil => simp (maxSteps := 1000000) +contextual only [go_sem, acondK_bool, acB_merge, Nat.reduceLT, Nat.reduceLeDiff, Nat.reduceEqDiff, Nat.reduceAdd, Nat.reduceSub, Nat.reduceMul, Nat.reduceBEq, Nat.reduceBNe, Nat.reduceBneDiff, Nat.reduceBeqDiff, Int.reduceToNat, Int.reduceLE, Int.reduceLT, Int.reduceEq, Int.reduceNe, Int.reduceNeg, Int.reduceAdd, Int.reduceSub, ↓reduceIte, reduceCtorEq, chkL]
      | cons x suf =>
        have hx : x ∈ args := by rw [hl]; simp
        have e1 := ih x hx (hok.arg x hx) (IntKind.i64.wrap (d + 1)) A
        have e2 := ih2 x suf rfl
        rw [hl] at e2
        simp only [List.length_append, List.length_cons] at e2
        simp (maxSteps := 1000000) +contextual only [go_sem, acondK_bool, acB_merge, Nat.reduceLT, Nat.reduceLeDiff, Nat.reduceEqDiff, Nat.reduceAdd, Nat.reduceSub, Nat.reduceMul, Nat.reduceBEq, Nat.reduceBNe, Nat.reduceBneDiff, Nat.reduceBeqDiff, Int.reduceToNat, Int.reduceLE, Int.reduceLT, Int.reduceEq, Int.reduceNe, Int.reduceNeg, Int.reduceAdd, Int.reduceSub, ↓reduceIte, reduceCtorEq, E.row_eq, e1, e2, wrap_nat hb, chkL]
        refine leafI ?_
        simp
    · refine leafI ?_
      simp at h
      simp [chkE, h]
mutual
def cntE : E → Int → Int
  | .mk op n s args, m => cntL args (IntKind.i64.wrap (1 + IntKind.i64.wrap (Int.tdiv s.length 64))) m
def cntL : List E → Int → Int → Int
  | [], n, _ => n
  | x :: l, n, m => if n ≤ m then cntL l (IntKind.i64.wrap (n + cntE x (IntKind.i64.wrap (m - n)))) m else n
end
/-- the count behind some operands -/
def cntP : List E → Int → Int → Int
  | [], n, _ => n
  | x :: l, n, m => cntP l (IntKind.i64.wrap (n + cntE x (IntKind.i64.wrap (m - n)))) m
theorem cntP_snoc : ∀ (l : List E) (x : E) (n m : Int), cntP (l ++ [x]) n m = IntKind.i64.wrap (cntP l n m + cntE x (IntKind.i64.wrap (m - cntP l n m)))
  | [], _, _, _ => rfl
  | y :: l, x, n, m => by simp only [List.cons_append, cntP, cntP_snoc l]
theorem valid : ∀ e, E.Ok e → ∀ (d : Int) (A : AHeap), acl C 83 [E.av e, .d (.int .i64 d)] A = some (.d (.int .i64 (chkE e d)), A) := by
  intro e
  induction e using E.ind with
  | h op n s args ih =>
    intro hok d A
    rw [k_call (c := C) (f := 83) rfl Tryz.func83 rfl (ok 83 (by kernel_rfl)) rfl Tryz.ntmps83 Tryz.results83 (by simp)]
    simp (maxSteps := 1000000) +contextual only [go_sem, acondK_bool, acB_merge, Nat.reduceLT, Nat.reduceLeDiff, Nat.reduceEqDiff, Nat.reduceAdd, Nat.reduceSub, Nat.reduceMul, Nat.reduceBEq, Nat.reduceBNe, Nat.reduceBneDiff, Nat.reduceBeqDiff, Int.reduceToNat, Int.reduceLE, Int.reduceLT, Int.reduceEq, Int.reduceNe, Int.reduceNeg, Int.reduceAdd, Int.reduceSub, ↓reduceIte, reduceCtorEq, hok.s]
    refine way (fun h => ?_) (fun h => ?_)
    · refine loop_list (fun i => [(2, .box [.d (.int .i64 op), .d (.int .i64 n), .d (.str s), .d (.slice (args.map E.row))]), (1, .v (.d (.int .i64 d))), (6, .v (.d (.int .i64 (i : Int))))])
        (fun pre suf => some (.d (.int .i64 (chkL suf (IntKind.i64.wrap (d + 1)))), A)) args rfl (by simp at h; simp [chkE, h]) ?_
      intro pre suf hl ih2
      have hb : pre.length < 9223372036854775807 := by have := hok.len; rw [hl] at this; simp at this; omega
      rw [hl]
      cases suf with
      | nil => simp (maxSteps := 1000000) +contextual only [go_sem, acondK_bool, acB_merge, Nat.reduceLT, Nat.reduceLeDiff, Nat.reduceEqDiff, Nat.reduceAdd, Nat.reduceSub, Nat.reduceMul, Nat.reduceBEq, Nat.reduceBNe, Nat.reduceBneDiff, Nat.reduceBeqDiff, Int.reduceToNat, Int.reduceLE, Int.reduceLT, Int.reduceEq, Int.reduceNe, Int.reduceNeg, Int.reduceAdd, Int.reduceSub, ↓reduceIte, reduceCtorEq, chkL]
      | cons x suf =>
        have hx : x ∈ args := by rw [hl]; simp
        have e1 := ih x hx (hok.arg x hx) (IntKind.i64.wrap (d + 1)) A
        have e2 := ih2 x suf rfl
        rw [hl] at e2
        simp (maxSteps := 1000000) +contextual only [go_sem, acondK_bool, acB_merge, Nat.reduceLT, Nat.reduceLeDiff, Nat.reduceEqDiff, Nat.reduceAdd, Nat.reduceSub, Nat.reduceMul, Nat.reduceBEq, Nat.reduceBNe, Nat.reduceBneDiff, Nat.reduceBeqDiff, Int.reduceToNat, Int.reduceLE, Int.reduceLT, Int.reduceEq, Int.reduceNe, Int.reduceNeg, Int.reduceAdd, Int.reduceSub, ↓reduceIte, reduceCtorEq, E.row_eq, e1, e2, wrap_nat hb, chkL]
        refine leafI ?_
        simp
    · refine leafI ?_
      simp at h
      simp [chkE, h]
end Go.Proofs.YtfflfaedghfmdaaGreatDoor
set_option linter.all false
namespace Go.Proofs.YtfflfaedghfmdaaGreatDoor
open Go.Abs
attribute [local congr] ite_congr
set_option maxRecDepth 10000
theorem validExpr (e : E) (hok : E.Ok e) (A : AHeap) : acl C 37 [E.av e] A = some (.d (.int .i64 (chkE e 1)), A) := by
  rw [k_call (c := C) (f := 37) rfl Tryz.func37 rfl (ok 37 (by kernel_rfl)) rfl Tryz.ntmps37 Tryz.results37 (by simp)]
  simp (maxSteps := 1000000) +contextual only [go_sem, acondK_bool, acB_merge, Nat.reduceLT, Nat.reduceLeDiff, Nat.reduceEqDiff, Nat.reduceAdd, Nat.reduceSub, Nat.reduceMul, Nat.reduceBEq, Nat.reduceBNe, Nat.reduceBneDiff, Nat.reduceBeqDiff, Int.reduceToNat, Int.reduceLE, Int.reduceLT, Int.reduceEq, Int.reduceNe, Int.reduceNeg, Int.reduceAdd, Int.reduceSub, ↓reduceIte, reduceCtorEq, check e hok]
theorem validExprR (e : E) (hok : E.Ok e) (A : AHeap) : acl C 63 [E.av e] A = some (.d (.int .i64 (chkE e 1)), A) := by
  rw [k_call (c := C) (f := 63) rfl Tryz.func63 rfl (ok 63 (by kernel_rfl)) rfl Tryz.ntmps63 Tryz.results63 (by simp)]
  simp (maxSteps := 1000000) +contextual only [go_sem, acondK_bool, acB_merge, Nat.reduceLT, Nat.reduceLeDiff, Nat.reduceEqDiff, Nat.reduceAdd, Nat.reduceSub, Nat.reduceMul, Nat.reduceBEq, Nat.reduceBNe, Nat.reduceBneDiff, Nat.reduceBeqDiff, Int.reduceToNat, Int.reduceLE, Int.reduceLT, Int.reduceEq, Int.reduceNe, Int.reduceNeg, Int.reduceAdd, Int.reduceSub, ↓reduceIte, reduceCtorEq, valid e hok]
end Go.Proofs.YtfflfaedghfmdaaGreatDoor
