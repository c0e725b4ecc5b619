/- The texts of operators: the plain part. -/
import Derived.Test.YtfflfaedghfmdaaDoorSeatN
import Derived.Test.YtfflfaedghfmdaaDoorSeatA
set_option linter.unusedVariables false
set_option linter.unusedSimpArgs false
set_option linter.all false
set_option linter.deprecated false
set_option linter.all false
namespace Go.Proofs.YtfflfaedghfmdaaDoor
open Go.Abs
set_option maxRecDepth 100000
theorem nodeS_mono {op n d d' : Int} {s : Bytes} {len : Nat} (h : nodeS op n s len d = 0) (hd : d' ≤ d) : nodeS op n s len d' = 0 := by
  unfold nodeS at h ⊢
  split at h
  · cases h
  rename_i h1
  rw [if_neg h1]
  split at h
  · cases h
  rename_i h2
  rw [if_neg h2]
  split at h
  · cases h
  rename_i h3
  rw [if_neg h3]
  split at h
  · cases h
  rename_i h4
  rw [if_neg (by omega)]
theorem chkL_of : ∀ (l : List E) (d : Int), (∀ x ∈ l, chkE x d = 0) → chkL l d = 0
  | [], _, _ => by simp [chkL]
  | y :: l, d, h => by
    rw [chkL_cons]
    exact ⟨h y (by simp), chkL_of l d fun x hx => h x (by simp [hx])⟩
theorem chkE_mono : ∀ e, ∀ d d' : Int, chkE e d = 0 → 0 ≤ d' → d' ≤ d → chkE e d' = 0 := by
  intro e
  induction e using E.ind with
  | h op n s args ih =>
    intro d d' h h0 hd
    rw [chkE_zero] at h ⊢
    have hz := nodeS_zero h.1
    obtain ⟨h1, h2⟩ := h
    rw [wrap_step (by omega) hz.2.2.2.1] at h2
    rw [wrap_step h0 (by omega)]
    exact ⟨nodeS_mono h1 hd, chkL_of _ _ fun x hx => ih x hx _ _ (chkL_mem _ _ h2 x hx) (by omega) (by omega)⟩
def ap (op : Int) (l : List E) : E := .mk op 0 [] l
theorem ap_ok {op : Int} {l : List E} (ho : i64 op) (hl : l.length ≤ 8) (h : ∀ x ∈ l, x.Ok) : (ap op l).Ok := .mk op 0 [] l ho (by constructor <;> decide) (by simp) (by omega) (by omega) h
/-- operators that are built as these are -/
theorem node_ap {op d : Int} {len : Nat} (ho : 4 ≤ op) (ha : (len : Int) = ar op) : nodeS op 0 [] len d = 0 ↔ d ≤ 12 := by
  unfold nodeS
  have h0 : ¬ ar op < 0 := by omega
  have h1 : ¬ op = 1 := by omega
  have h2 : ¬ op = 2 := by omega
  have h3 : ¬ op = 3 := by omega
  simp [h0, h1, h2, h3, ha]
theorem chk_ap {op d : Int} {l : List E} (ho : 4 ≤ op) (ha : (l.length : Int) = ar op) (h0 : 0 ≤ d) : chkE (ap op l) d = 0 ↔ d ≤ 12 ∧ ∀ x ∈ l, chkE x (d + 1) = 0 := by
  unfold ap
  rw [chkE_zero, node_ap ho ha]
  constructor
  · rintro ⟨h1, h2⟩
    rw [wrap_step h0 h1] at h2
    exact ⟨h1, chkL_mem _ _ h2⟩
  · rintro ⟨h1, h2⟩
    rw [wrap_step h0 h1]
    exact ⟨h1, chkL_of _ _ h2⟩
theorem exprS_of {e : E} (h : chkE e 1 = 0) : exprS e = textS e := by unfold exprS; rw [if_pos h]
theorem par9 {e : E} (h : lvl e.op = 9) (k : Int) (hk : k ≤ 9) : par e.op (textS e) k = textS e := by unfold par; rw [if_neg (by omega)]
theorem par_in {e : E} {k : Int} (hk : k ≤ lvl e.op) : par e.op (textS e) k = textS e := by unfold par; rw [if_neg (by omega)]
theorem par_out {e : E} {k : Int} (hk : lvl e.op < k) : par e.op (textS e) k = 40 :: (textS e ++ [41]) := by unfold par; rw [if_pos hk]
/-- the left operand is itself this operator -/
theorem txt_left {op : Int} (ha : ar op = 2) (h4 : lvl op ≠ 4) {x y z : E} (hx : lvl x.op = 9) (hy : lvl y.op = 9) (hz : lvl z.op = 9) :
    textS (ap op [ap op [x, y], z]) = textS x ++ [32] ++ sgn op ++ [32] ++ textS y ++ [32] ++ sgn op ++ [32] ++ textS z := by
  obtain ⟨_, _, _, _, _, _, l1, l8⟩ := bin_lvl ha
  have hl : lft op = lvl op := by unfold lft; rw [if_neg h4]
  unfold ap
  rw [txt_bin ha, par_in (e := E.mk op 0 [] [x, y]) (by rw [hl]; exact Int.le_refl _), txt_bin ha, hl, par9 hx _ (by omega), par9 hy _ (by omega), par9 hz _ (by omega)]
  simp only [List.append_assoc]
theorem txt_right {op : Int} (ha : ar op = 2) (h4 : lvl op ≠ 4) {x y z : E} (hx : lvl x.op = 9) (hy : lvl y.op = 9) (hz : lvl z.op = 9) :
    textS (ap op [x, ap op [y, z]]) = textS x ++ [32] ++ sgn op ++ [32, 40] ++ textS y ++ [32] ++ sgn op ++ [32] ++ textS z ++ [41] := by
  obtain ⟨_, _, _, _, _, _, l1, l8⟩ := bin_lvl ha
  have hl : lft op = lvl op := by unfold lft; rw [if_neg h4]
  unfold ap
  rw [txt_bin ha, par_out (e := E.mk op 0 [] [y, z]) (show lvl op < lvl op + 1 by omega), txt_bin ha, hl, par9 hx _ (by omega), par9 hy _ (by omega), par9 hz _ (by omega)]
  simp [List.append_assoc]
theorem txt_less {x y z : E} (hx : lvl x.op = 9) (hy : lvl y.op = 9) (hz : lvl z.op = 9) :
    textS (ap 12 [ap 12 [x, y], z]) = [40] ++ textS x ++ [32, 60, 32] ++ textS y ++ [41, 32, 60, 32] ++ textS z := by
  unfold ap
  rw [txt_bin (by decide), par_out (e := E.mk 12 0 [] [x, y]) (show lvl 12 < lft 12 by decide), txt_bin (by decide), par9 hx _ (by decide), par9 hy _ (by decide), par9 hz _ (by decide)]
  have : sgn 12 = [60] := by decide
  rw [this]
  simp [List.append_assoc]
theorem txt_negneg {x : E} (hx : lvl x.op = 9) : textS (ap 9 [ap 9 [x]]) = [45, 45] ++ textS x := by
  unfold ap
  rw [txt_neg, par_in (e := E.mk 9 0 [] [x]) (show (8 : Int) ≤ lvl 9 by decide), txt_neg, par9 hx _ (by decide)]
  rfl
theorem txt_one {op : Int} (h : 20 ≤ op ∧ op ≤ 24) (x : E) : textS (ap op [x]) = wrd op ++ [40] ++ textS x ++ [41] := txt_call1 h 0 [] x
theorem txt_notlen (x : E) : textS (ap 18 [ap 21 [x]]) = [110, 111, 116, 32, 108, 101, 110, 40] ++ textS x ++ [41] := by
  unfold ap
  rw [txt_not, par_in (e := E.mk 21 0 [] [x]) (show (3 : Int) ≤ lvl 21 by decide), txt_call1 (by decide)]
  rfl
/-- the operators of the law, with their signs -/
def opsL : List (Int × Bytes) := [(17, [111, 114]), (16, [97, 110, 100]), (19, [43, 43]), (4, [43]), (5, [45]), (6, [42]), (7, [47]), (8, [37])]
theorem opsL_all : ∀ x ∈ opsL, ar x.1 = 2 ∧ lvl x.1 ≠ 4 ∧ sgn x.1 = x.2 ∧ 4 ≤ x.1 ∧ x.1 ≤ 19 := by decide
end Go.Proofs.YtfflfaedghfmdaaDoor
set_option linter.all false
namespace Go.Proofs.YtfflfaedghfmdaaDoor
open Go.Abs
attribute [local congr] ite_congr
set_option maxRecDepth 100000
theorem applyW (op : Int) (rows : List (List Dat)) (A : AHeap) : acl C 15 [.d (.int .i64 op), .full rows] A = some (eV op 0 [] rows, A) := by
  rw [k_call (c := C) (f := 15) rfl Tryd.func15 rfl (ok 15 (by kernel_rfl)) rfl Tryd.ntmps15 Tryd.results15 (by simp)]
  simp (maxSteps := 1000000) only [go_sem, acondK_bool, acB_merge, Nat.reduceLT, Nat.reduceLeDiff, Nat.reduceEqDiff, Nat.reduceAdd, Nat.reduceSub, Nat.reduceMul, Nat.reduceBEq, Nat.reduceBNe, Nat.reduceBneDiff, Nat.reduceBeqDiff, Int.reduceToNat, Int.reduceLE, Int.reduceLT, Int.reduceEq, Int.reduceNe, Int.reduceNeg, Int.reduceAdd, Int.reduceSub, ↓reduceIte, reduceCtorEq]
abbrev rwE (e : E) : List Dat := [.int .i64 e.op, .int .i64 e.n, .str e.s, .slice (e.args.map E.row)]
theorem av1 (op o : Int) (e : E) : E.av (ap op [ap o [e]]) = eV op 0 [] [[.int .i64 o, .int .i64 0, .str [], .slice [rwE e]]] := by
  simp only [E.av, ap, E.row_eq, List.map_cons, List.map_nil]
theorem av0 (op : Int) (e : E) : E.av (ap op [e]) = eV op 0 [] [rwE e] := by
  simp only [E.av, ap, E.row_eq, List.map_cons, List.map_nil]
theorem exprAt {e : E} (hok : e.Ok) (h : chkE e 1 = 0) (A : AHeap) : acl C 12 [E.av e] A = some (.d (.str (textS e)), A) := by
  have := exprT e hok A
  rwa [exprS_of h] at this
theorem saddX {a b : Bytes} {n m : Nat} (ha : a.length ≤ n) (hb : b.length ≤ m) (h : n + m ≤ 1099511627776) : ∃ q, q = a ++ b ∧ q.length ≤ n + m ∧ ∀ t, abin Tryd.prog .add t (.d (.str a)) (.d (.str b)) = some (.d (.str q)) :=
  ⟨a ++ b, rfl, by rw [List.length_append]; omega, sadd (by omega)⟩
def fI (x : Int × Bytes) : List Dat := [.int .i64 x.1]
def fS (x : Int × Bytes) : List Dat := [.str x.2]
theorem chk_left {a b c : E} (h : chkE (ap 17 [ap 17 [a, b], c]) 1 = 0) {op : Int} (ho : 4 ≤ op) (ha : ar op = 2) : chkE (ap op [ap op [a, b], c]) 1 = 0 := by
  have h1 := ((chk_ap (op := 17) (l := [ap 17 [a, b], c]) (by decide) (by rfl) (by decide)).1 h).2
  have h2 := ((chk_ap (op := 17) (l := [a, b]) (by decide) (by rfl) (by decide)).1 (h1 (ap 17 [a, b]) (by simp))).2
  refine (chk_ap ho (by rw [ha]; rfl) (by decide)).2 ⟨by decide, fun x hx => ?_⟩
  simp only [List.mem_cons, List.not_mem_nil, or_false] at hx
  rcases hx with rfl | rfl
  · exact (chk_ap ho (by rw [ha]; rfl) (by decide)).2 ⟨by decide, h2⟩
  · exact h1 _ (by simp)
theorem chk_right {a b c : E} (h : chkE (ap 17 [a, ap 17 [b, c]]) 1 = 0) {op : Int} (ho : 4 ≤ op) (ha : ar op = 2) : chkE (ap op [a, ap op [b, c]]) 1 = 0 := by
  have h1 := ((chk_ap (op := 17) (l := [a, ap 17 [b, c]]) (by decide) (by rfl) (by decide)).1 h).2
  have h2 := ((chk_ap (op := 17) (l := [b, c]) (by decide) (by rfl) (by decide)).1 (h1 (ap 17 [b, c]) (by simp))).2
  refine (chk_ap ho (by rw [ha]; rfl) (by decide)).2 ⟨by decide, fun x hx => ?_⟩
  simp only [List.mem_cons, List.not_mem_nil, or_false] at hx
  rcases hx with rfl | rfl
  · exact h1 _ (by simp)
  · exact (chk_ap ho (by rw [ha]; rfl) (by decide)).2 ⟨by decide, h2⟩
theorem chk_neg {a b c : E} (h : chkE (ap 17 [ap 17 [a, b], c]) 1 = 0) : chkE (ap 9 [ap 9 [a]]) 1 = 0 := by
  have h1 := ((chk_ap (op := 17) (l := [ap 17 [a, b], c]) (by decide) (by rfl) (by decide)).1 h).2
  have h2 := ((chk_ap (op := 17) (l := [a, b]) (by decide) (by rfl) (by decide)).1 (h1 (ap 17 [a, b]) (by simp))).2
  refine (chk_ap (by decide) (by rfl) (by decide)).2 ⟨by decide, fun x hx => ?_⟩
  rw [List.mem_singleton] at hx
  subst hx
  refine (chk_ap (by decide) (by rfl) (by decide)).2 ⟨by decide, fun x hx => ?_⟩
  rw [List.mem_singleton] at hx
  subst hx
  exact h2 _ (by simp)
theorem nn3 {e : E} (h : chkE (ap 18 [ap 18 [e]]) 1 = 0) : chkE e 3 = 0 := by
  have h1 := ((chk_ap (op := 18) (l := [ap 18 [e]]) (by decide) (by rfl) (by decide)).1 h).2 (ap 18 [e]) (by simp)
  exact ((chk_ap (op := 18) (l := [e]) (by decide) (by rfl) (by decide)).1 h1).2 e (by simp)
set_option maxHeartbeats 8000000 in
theorem lawPrinterOperators (e f g : E) (he : e.Ok) (hf : f.Ok) (hg : g.Ok) (A : AHeap) : acl C 6 [E.av e, E.av f, E.av g] A = some (.d (.bool true), A) := by
  have wk := works A
  have ap1 := applyW
  have k18 : i64 18 := by constructor <;> decide
  have ok1 : ∀ {op : Int} {x : E}, i64 op → x.Ok → (ap op [x]).Ok := fun ho hx => ap_ok ho (by simp) (by simpa using hx)
  have v1 := validExpr (ap 18 [ap 18 [e]]) (ok1 k18 (ok1 k18 he)) A
  have v2 := validExpr (ap 18 [ap 18 [f]]) (ok1 k18 (ok1 k18 hf)) A
  have v3 := validExpr (ap 18 [ap 18 [g]]) (ok1 k18 (ok1 k18 hg)) A
  rw [av1] at v1 v2 v3
  rw [k_call (c := C) (f := 6) rfl Tryd.func6 rfl (ok 6 (by kernel_rfl)) rfl Tryd.ntmps6 Tryd.results6 (by simp)]
  cases h1 : decide (chkE (ap 18 [ap 18 [e]]) 1 = 0) with
  | false => simp (maxSteps := 1000000) only [go_sem, acondK_bool, acB_merge, Nat.reduceLT, Nat.reduceLeDiff, Nat.reduceEqDiff, Nat.reduceAdd, Nat.reduceSub, Nat.reduceMul, Nat.reduceBEq, Nat.reduceBNe, Nat.reduceBneDiff, Nat.reduceBeqDiff, Int.reduceToNat, Int.reduceLE, Int.reduceLT, Int.reduceEq, Int.reduceNe, Int.reduceNeg, Int.reduceAdd, Int.reduceSub, ↓reduceIte, reduceCtorEq, wk, ap1, v1, h1]
  | true =>
  cases h2 : decide (chkE (ap 18 [ap 18 [f]]) 1 = 0) with
  | false => simp (maxSteps := 1000000) only [go_sem, acondK_bool, acB_merge, Nat.reduceLT, Nat.reduceLeDiff, Nat.reduceEqDiff, Nat.reduceAdd, Nat.reduceSub, Nat.reduceMul, Nat.reduceBEq, Nat.reduceBNe, Nat.reduceBneDiff, Nat.reduceBeqDiff, Int.reduceToNat, Int.reduceLE, Int.reduceLT, Int.reduceEq, Int.reduceNe, Int.reduceNeg, Int.reduceAdd, Int.reduceSub, ↓reduceIte, reduceCtorEq, wk, ap1, v1, h1, v2, h2]
  | true =>
  cases h3 : decide (chkE (ap 18 [ap 18 [g]]) 1 = 0) with
  | false => simp (maxSteps := 1000000) only [go_sem, acondK_bool, acB_merge, Nat.reduceLT, Nat.reduceLeDiff, Nat.reduceEqDiff, Nat.reduceAdd, Nat.reduceSub, Nat.reduceMul, Nat.reduceBEq, Nat.reduceBNe, Nat.reduceBneDiff, Nat.reduceBeqDiff, Int.reduceToNat, Int.reduceLE, Int.reduceLT, Int.reduceEq, Int.reduceNe, Int.reduceNeg, Int.reduceAdd, Int.reduceSub, ↓reduceIte, reduceCtorEq, wk, ap1, v1, h1, v2, h2, v3, h3]
  | true =>
  have n1 := nn3 (of_decide_eq_true h1)
  have n2 := nn3 (of_decide_eq_true h2)
  have n3 := nn3 (of_decide_eq_true h3)
  have b1 := textS_small he n1 (by decide) (by decide)
  have b2 := textS_small hf n2 (by decide) (by decide)
  have b3 := textS_small hg n3 (by decide) (by decide)
  have x1 := exprAt he (chkE_mono _ _ _ n1 (by decide) (by decide)) A
  have x2 := exprAt hf (chkE_mono _ _ _ n2 (by decide) (by decide)) A
  have x3 := exprAt hg (chkE_mono _ _ _ n3 (by decide) (by decide)) A
  have y1 := exprAt (e := ap 20 [e]) (ok1 (by constructor <;> decide) he) ((chk_ap (by decide) (by rfl) (by decide)).2 ⟨by decide, by simpa using chkE_mono _ _ 2 n1 (by decide) (by decide)⟩) A
  have y2 := exprAt (e := ap 24 [f]) (ok1 (by constructor <;> decide) hf) ((chk_ap (by decide) (by rfl) (by decide)).2 ⟨by decide, by simpa using chkE_mono _ _ 2 n2 (by decide) (by decide)⟩) A
  have y3 := exprAt (e := ap 18 [ap 21 [g]]) (ok1 k18 (ok1 (by constructor <;> decide) hg)) ((chk_ap (by decide) (by rfl) (by decide)).2 ⟨by decide, by
    intro x hx
    rw [List.mem_singleton] at hx
    subst hx
    exact (chk_ap (by decide) (by rfl) (by decide)).2 ⟨by decide, by simpa using n3⟩⟩) A
  rw [av0, txt_one (by decide)] at y1 y2
  rw [av1, txt_notlen] at y3
  have t1 : wrd 20 ++ [40] = [116, 101, 120, 116, 40] := by decide
  have t2 : wrd 24 ++ [40] = [104, 97, 115, 40] := by decide
  rw [t1] at y1
  rw [t2] at y2
  have c1 := sadd (a := [116, 101, 120, 116, 40]) (b := textS e) (by simp; omega)
  have c2 := sadd (a := [116, 101, 120, 116, 40] ++ textS e) (b := [41]) (by simp; omega)
  have c3 := sadd (a := [104, 97, 115, 40]) (b := textS f) (by simp; omega)
  have c4 := sadd (a := [104, 97, 115, 40] ++ textS f) (b := [41]) (by simp; omega)
  have c5 := sadd (a := [110, 111, 116, 32, 108, 101, 110, 40]) (b := textS g) (by simp; omega)
  have c6 := sadd (a := [110, 111, 116, 32, 108, 101, 110, 40] ++ textS g) (b := [41]) (by simp; omega)
  generalize [116, 101, 120, 116, 40] ++ textS e ++ [41] = r2 at c2 y1
  generalize [116, 101, 120, 116, 40] ++ textS e = r1 at c1 c2
  generalize [104, 97, 115, 40] ++ textS f ++ [41] = r4 at c4 y2
  generalize [104, 97, 115, 40] ++ textS f = r3 at c3 c4
  generalize [110, 111, 116, 32, 108, 101, 110, 40] ++ textS g ++ [41] = r6 at c6 y3
  generalize [110, 111, 116, 32, 108, 101, 110, 40] ++ textS g = r5 at c5 c6
  have s1 : (r2 == r2) = true := beq_self_eq_true _
  have s2 : (r4 == r4) = true := beq_self_eq_true _
  have s3 : (r6 == r6) = true := beq_self_eq_true _
  simp (maxSteps := 1000000) only [go_sem, acondK_bool, acB_merge, Nat.reduceLT, Nat.reduceLeDiff, Nat.reduceEqDiff, Nat.reduceAdd, Nat.reduceSub, Nat.reduceMul, Nat.reduceBEq, Nat.reduceBNe, Nat.reduceBneDiff, Nat.reduceBeqDiff, Int.reduceToNat, Int.reduceLE, Int.reduceLT, Int.reduceEq, Int.reduceNe, Int.reduceNeg, Int.reduceAdd, Int.reduceSub, ↓reduceIte, reduceCtorEq, wk, ap1, v1, h1, v2, h2, v3, h3, k_drawn_q (id := 3), k_drawn_t (id := 5), x1, x2, x3, y1, y2, y3, c1, c2, c3, c4, c5, c6, s1, s2, s3]
  refine Eq.trans (ctE_ok (by repeat (first | exact MLe.nil | apply MLe.qq | apply MLe.q | apply MLe.o | apply MLe.b | apply MLe.l)) (by kernel_rfl)) ?_
  clear y1 y2 y3 c1 c2 c3 c4 c5 c6 v1 v2 v3 s1 s2 s3 x1 x2 x3
  have hok1 : (ap 20 [e]).Ok := ok1 (by constructor <;> decide) he
  have hok2 : (ap 22 [f]).Ok := ok1 (by constructor <;> decide) hf
  have hok3 : (ap 23 [g]).Ok := ok1 (by constructor <;> decide) hg
  have q1 : chkE (ap 20 [e]) 2 = 0 := (chk_ap (by decide) (by rfl) (by decide)).2 ⟨by decide, by simpa using n1⟩
  have q2 : chkE (ap 22 [f]) 2 = 0 := (chk_ap (by decide) (by rfl) (by decide)).2 ⟨by decide, by simpa using n2⟩
  have q3 : chkE (ap 23 [g]) 2 = 0 := (chk_ap (by decide) (by rfl) (by decide)).2 ⟨by decide, by simpa using n3⟩
  have x1 := exprAt hok1 (chkE_mono _ _ _ q1 (by decide) (by decide)) A
  have x2 := exprAt hok2 (chkE_mono _ _ _ q2 (by decide) (by decide)) A
  have x3 := exprAt hok3 (chkE_mono _ _ _ q3 (by decide) (by decide)) A
  rw [av0] at x1 x2 x3
  have hor : ∀ {x y : E}, x.Ok → y.Ok → ∀ {op : Int}, i64 op → (ap op [x, y]).Ok := fun hx hy _ ho => ap_ok ho (by simp) (by simp [hx, hy])
  have v1 := validExpr (ap 17 [ap 20 [e], ap 17 [ap 22 [f], ap 23 [g]]]) (hor hok1 (hor hok2 hok3 (by constructor <;> decide)) (by constructor <;> decide)) A
  have v2 := validExpr (ap 17 [ap 17 [ap 20 [e], ap 22 [f]], ap 23 [g]]) (hor (hor hok1 hok2 (by constructor <;> decide)) hok3 (by constructor <;> decide)) A
  simp only [E.av, ap, E.row_eq, List.map_cons, List.map_nil] at v1 v2
  cases h4 : decide (chkE (ap 17 [ap 20 [e], ap 17 [ap 22 [f], ap 23 [g]]]) 1 = 0) with
  | false =>
    unfold ap at h4
    simp (maxSteps := 1000000) only [go_sem, acondK_bool, acB_merge, Nat.reduceLT, Nat.reduceLeDiff, Nat.reduceEqDiff, Nat.reduceAdd, Nat.reduceSub, Nat.reduceMul, Nat.reduceBEq, Nat.reduceBNe, Nat.reduceBneDiff, Nat.reduceBeqDiff, Int.reduceToNat, Int.reduceLE, Int.reduceLT, Int.reduceEq, Int.reduceNe, Int.reduceNeg, Int.reduceAdd, Int.reduceSub, ↓reduceIte, reduceCtorEq, wk, ap1, x1, x2, x3, k_drawn_q (id := 6), k_drawn_q (id := 8), v1, h4]
  | true =>
  cases h5 : decide (chkE (ap 17 [ap 17 [ap 20 [e], ap 22 [f]], ap 23 [g]]) 1 = 0) with
  | false =>
    unfold ap at h4 h5
    simp (maxSteps := 1000000) only [go_sem, acondK_bool, acB_merge, Nat.reduceLT, Nat.reduceLeDiff, Nat.reduceEqDiff, Nat.reduceAdd, Nat.reduceSub, Nat.reduceMul, Nat.reduceBEq, Nat.reduceBNe, Nat.reduceBneDiff, Nat.reduceBeqDiff, Int.reduceToNat, Int.reduceLE, Int.reduceLT, Int.reduceEq, Int.reduceNe, Int.reduceNeg, Int.reduceAdd, Int.reduceSub, ↓reduceIte, reduceCtorEq, wk, ap1, x1, x2, x3, k_drawn_q (id := 6), k_drawn_q (id := 8), v1, v2, h4, h5]
  | true =>
  have u4 := h4
  have u5 := h5
  unfold ap at u4 u5
  simp (maxSteps := 1000000) only [go_sem, acondK_bool, acB_merge, Nat.reduceLT, Nat.reduceLeDiff, Nat.reduceEqDiff, Nat.reduceAdd, Nat.reduceSub, Nat.reduceMul, Nat.reduceBEq, Nat.reduceBNe, Nat.reduceBneDiff, Nat.reduceBeqDiff, Int.reduceToNat, Int.reduceLE, Int.reduceLT, Int.reduceEq, Int.reduceNe, Int.reduceNeg, Int.reduceAdd, Int.reduceSub, ↓reduceIte, reduceCtorEq, wk, ap1, x1, x2, x3, k_drawn_q (id := 6), k_drawn_q (id := 8), v1, v2, u4, u5]
  clear v1 v2 u4 u5 x1 x2 x3
  have z1 := textS_small hok1 q1 (by decide) (by decide)
  have z2 := textS_small hok2 q2 (by decide) (by decide)
  have z3 := textS_small hok3 q3 (by decide) (by decide)
  have okL : ∀ {op : Int}, i64 op → (ap op [ap op [ap 20 [e], ap 22 [f]], ap 23 [g]]).Ok := fun ho => hor (hor hok1 hok2 ho) hok3 ho
  have okR : ∀ {op : Int}, i64 op → (ap op [ap 20 [e], ap op [ap 22 [f], ap 23 [g]]]).Ok := fun ho => hor hok1 (hor hok2 hok3 ho) ho
  have atL : ∀ {op : Int}, 4 ≤ op ∧ op ≤ 19 → ar op = 2 → acl C 12 [E.av (ap op [ap op [ap 20 [e], ap 22 [f]], ap 23 [g]])] A = some (.d (.str (textS (ap op [ap op [ap 20 [e], ap 22 [f]], ap 23 [g]]))), A) := fun ho ha =>
    exprAt (okL (by constructor <;> omega)) (chk_left (of_decide_eq_true h5) ho.1 ha) A
  have atR : ∀ {op : Int}, 4 ≤ op ∧ op ≤ 19 → ar op = 2 → acl C 12 [E.av (ap op [ap 20 [e], ap op [ap 22 [f], ap 23 [g]]])] A = some (.d (.str (textS (ap op [ap 20 [e], ap op [ap 22 [f], ap 23 [g]]]))), A) := fun ho ha =>
    exprAt (okR (by constructor <;> omega)) (chk_right (of_decide_eq_true h4) ho.1 ha) A
  have atN := exprAt (ok1 (op := 9) (by constructor <;> decide) (ok1 (op := 9) (by constructor <;> decide) hok1)) (chk_neg (of_decide_eq_true h5)) A
  have lx : lvl (ap 20 [e]).op = 9 := by rfl
  have ly : lvl (ap 22 [f]).op = 9 := by rfl
  have lz : lvl (ap 23 [g]).op = 9 := by rfl
  have tL : ∀ {op : Int}, ar op = 2 → lvl op ≠ 4 → _ := fun ha h4 => txt_left ha h4 lx ly lz
  have tR : ∀ {op : Int}, ar op = 2 → lvl op ≠ 4 → _ := fun ha h4 => txt_right ha h4 lx ly lz
  have tl := txt_less lx ly lz
  have tn := txt_negneg lx
  have atl := atL (op := 12) (by decide) (by decide)
  rw [tl] at atl
  rw [tn] at atN
  simp only [E.av, ap, E.row_eq, List.map_cons, List.map_nil] at atl atN
  change acl C _ _ A = some (.d (.str ([40] ++ textS (ap 20 [e]) ++ [32, 60, 32] ++ textS (ap 22 [f]) ++ [41, 32, 60, 32] ++ textS (ap 23 [g]))), A) at atl
  change acl C _ _ A = some (.d (.str ([45, 45] ++ textS (ap 20 [e]))), A) at atN
  clear tl tn h1 h2 h3 h4 h5
  generalize textS (ap 20 [e]) = X at *
  generalize textS (ap 22 [f]) = Y at *
  generalize textS (ap 23 [g]) = Z at *
  refine loop_any (fun pre => [(7, .box [.d (.int .i64 20), .d (.int .i64 0), .d (.str []), .d (.slice [rwE e])]), (13, .v (.full (opsL.map fI))), (8, .box [.d (.int .i64 22), .d (.int .i64 0), .d (.str []), .d (.slice [rwE f])]),
    (9, .box [.d (.int .i64 23), .d (.int .i64 0), .d (.str []), .d (.slice [rwE g])]), (10, .v (.d (.str (X)))), (11, .v (.d (.str (Y)))), (14, .v (.full (opsL.map fS))), (12, .v (.d (.str (Z)))), (15, .v (.d (.int .i64 (pre.length : Nat))))])
    (fun _ => A) (fun _ _ => some (.d (.bool true), A)) opsL rfl rfl rfl ?_
  intro pre suf hl ih
  cases suf with
  | nil =>
    rw [List.append_nil] at hl
    have e1 : decide ((pre.length : Int) < (opsL.length : Int)) = false := by rw [hl]; simp
    simp (maxSteps := 1000000) only [go_sem, acondK_bool, acB_merge, Nat.reduceLT, Nat.reduceLeDiff, Nat.reduceEqDiff, Nat.reduceAdd, Nat.reduceSub, Nat.reduceMul, Nat.reduceBEq, Nat.reduceBNe, Nat.reduceBneDiff, Nat.reduceBeqDiff, Int.reduceToNat, Int.reduceLE, Int.reduceLT, Int.reduceEq, Int.reduceNe, Int.reduceNeg, Int.reduceAdd, Int.reduceSub, ↓reduceIte, reduceCtorEq, e1, k_drawn_t (id := 16), ap1]
    refine Eq.trans (ctE_ok (by repeat (first | exact MLe.nil | apply MLe.qq | apply MLe.q | apply MLe.o | apply MLe.b | apply MLe.l)) (by kernel_rfl)) ?_
    have L1 : ([40] : Bytes).length ≤ 1 := by decide
    have L3 : ([32, 60, 32] : Bytes).length ≤ 3 := by decide
    have L4 : ([41, 32, 60, 32] : Bytes).length ≤ 4 := by decide
    have L2 : ([45, 45] : Bytes).length ≤ 2 := by decide
    obtain ⟨p1, d1, k1, s1⟩ := saddX L1 z1 (by decide)
    obtain ⟨p2, d2, k2, s2⟩ := saddX k1 L3 (by decide)
    obtain ⟨p3, d3, k3, s3⟩ := saddX k2 z2 (by decide)
    obtain ⟨p4, d4, k4, s4⟩ := saddX k3 L4 (by decide)
    obtain ⟨p5, d5, k5, s5⟩ := saddX k4 z3 (by decide)
    obtain ⟨p6, d6, k6, s6⟩ := saddX L2 z1 (by decide)
    rw [← d1, ← d2, ← d3, ← d4, ← d5] at atl
    rw [← d6] at atN
    have r5 : (p5 == p5) = true := beq_self_eq_true _
    have r6 : (p6 == p6) = true := beq_self_eq_true _
    simp (maxSteps := 1000000) only [go_sem, acondK_bool, acB_merge, Nat.reduceLT, Nat.reduceLeDiff, Nat.reduceEqDiff, Nat.reduceAdd, Nat.reduceSub, Nat.reduceMul, Nat.reduceBEq, Nat.reduceBNe, Nat.reduceBneDiff, Nat.reduceBeqDiff, Int.reduceToNat, Int.reduceLE, Int.reduceLT, Int.reduceEq, Int.reduceNe, Int.reduceNeg, Int.reduceAdd, Int.reduceSub, ↓reduceIte, reduceCtorEq, wk, ap1, atl, atN, s1, s2, s3, s4, s5, s6, r5, r6]
  | cons x suf =>
    have hx : x ∈ opsL := by rw [hl]; simp
    obtain ⟨o1, o2, o3, o4, o5⟩ := opsL_all x hx
    have hb : pre.length < 9223372036854775807 := by
      have : pre.length ≤ opsL.length := by rw [hl]; simp
      have h8 : opsL.length = 8 := rfl
      omega
    have e1 : decide ((pre.length : Int) < (opsL.length : Int)) = true := by rw [hl]; simp; omega
    have e3 : (opsL.map fI)[pre.length]? = some [.int .i64 x.1] := by rw [hl]; exact map_mid
    have e4 : (opsL.map fS)[pre.length]? = some [.str x.2] := by rw [hl]; exact map_mid
    have ih' := ih x suf rfl
    rw [List.length_append, List.length_cons, List.length_nil] at ih'
    have w1 : IntKind.i64.wrap ((pre.length : Int) + 1) = ((pre.length + 1 : Nat) : Int) := wrap_nat hb
    have yL := atL ⟨o4, o5⟩ o1
    have yR := atR ⟨o4, o5⟩ o1
    rw [tL o1 o2, o3] at yL
    rw [tR o1 o2, o3] at yR
    simp only [E.av, ap, E.row_eq, List.map_cons, List.map_nil] at yL yR
    have ls : x.2.length ≤ 3 := by rw [← o3]; exact sgn_len _
    have L1 : ([32] : Bytes).length ≤ 1 := by decide
    have L2 : ([32, 40] : Bytes).length ≤ 2 := by decide
    have L3 : ([41] : Bytes).length ≤ 1 := by decide
    obtain ⟨p1, d1, k1, s1⟩ := saddX z1 L1 (by decide)
    obtain ⟨p2, d2, k2, s2⟩ := saddX k1 ls (by decide)
    obtain ⟨p3, d3, k3, s3⟩ := saddX k2 L1 (by decide)
    obtain ⟨p4, d4, k4, s4⟩ := saddX k3 z2 (by decide)
    obtain ⟨p5, d5, k5, s5⟩ := saddX k4 L1 (by decide)
    obtain ⟨p6, d6, k6, s6⟩ := saddX k5 ls (by decide)
    obtain ⟨p7, d7, k7, s7⟩ := saddX k6 L1 (by decide)
    obtain ⟨p8, d8, k8, s8⟩ := saddX k7 z3 (by decide)
    obtain ⟨r3, f3, j3, t3⟩ := saddX k2 L2 (by decide)
    obtain ⟨r4, f4, j4, t4⟩ := saddX j3 z2 (by decide)
    obtain ⟨r5, f5, j5, t5⟩ := saddX j4 L1 (by decide)
    obtain ⟨r6, f6, j6, t6⟩ := saddX j5 ls (by decide)
    obtain ⟨r7, f7, j7, t7⟩ := saddX j6 L1 (by decide)
    obtain ⟨r8, f8, j8, t8⟩ := saddX j7 z3 (by decide)
    obtain ⟨r9, f9, j9, t9⟩ := saddX j8 L3 (by decide)
    rw [← d1, ← d2, ← d3, ← d4, ← d5, ← d6, ← d7, ← d8] at yL
    rw [← d1, ← d2, ← f3, ← f4, ← f5, ← f6, ← f7, ← f8, ← f9] at yR
    have b8 : (p8 == p8) = true := beq_self_eq_true _
    have b9 : (r9 == r9) = true := beq_self_eq_true _
    simp (maxSteps := 1000000) only [go_sem, acondK_bool, acB_merge, Nat.reduceLT, Nat.reduceLeDiff, Nat.reduceEqDiff, Nat.reduceAdd, Nat.reduceSub, Nat.reduceMul, Nat.reduceBEq, Nat.reduceBNe, Nat.reduceBneDiff, Nat.reduceBeqDiff, Int.reduceToNat, Int.reduceLE, Int.reduceLT, Int.reduceEq, Int.reduceNe, Int.reduceNeg, Int.reduceAdd, Int.reduceSub, ↓reduceIte, reduceCtorEq, e1, e3, k_drawn_t (id := 13), ap1]
    refine Eq.trans (ctE_ok (by repeat (first | exact MLe.nil | apply MLe.qq | apply MLe.q | apply MLe.o | apply MLe.b | apply MLe.l)) (by kernel_rfl)) ?_
    simp (maxSteps := 1000000) only [go_sem, acondK_bool, acB_merge, Nat.reduceLT, Nat.reduceLeDiff, Nat.reduceEqDiff, Nat.reduceAdd, Nat.reduceSub, Nat.reduceMul, Nat.reduceBEq, Nat.reduceBNe, Nat.reduceBneDiff, Nat.reduceBeqDiff, Int.reduceToNat, Int.reduceLE, Int.reduceLT, Int.reduceEq, Int.reduceNe, Int.reduceNeg, Int.reduceAdd, Int.reduceSub, ↓reduceIte, reduceCtorEq, e4, k_drawn_q (id := 14), yL, yR, s1, s2, s3, s4, s5, s6, s7, s8, t3, t4, t5, t6, t7, t8, t9, b8, b9, w1, ih']
theorem lawPrinterOperatorsC (e f g : E) (ke : e.Ok ∧ wRow e.row ≤ 1048576) (kf : f.Ok ∧ wRow f.row ≤ 1048576) (kg : g.Ok ∧ wRow g.row ≤ 1048576) : acl C 6 [E.av e, E.av f, E.av g] A00 = some (.d (.bool true), A00) := lawPrinterOperators e f g ke.1 kf.1 kg.1 A00
end Go.Proofs.YtfflfaedghfmdaaDoor
