/- The slots of a procedure: the names of its loops. -/
import Derived.Test.YtjmghomnbmbjnaaGreatSeatO
import Derived.Test.YtjmghomnbmbjnaaGreatSeatP
import Derived.Test.YtjmghomnbmbjnaaGreatSeatB
import Derived.Test.YtjmghomnbmbjnaaGreatGenC
import Derived.Test.YtjmghomnbmbjnaaGreatSeatK
set_option linter.unusedVariables false
set_option linter.unusedSimpArgs false
set_option linter.all false
set_option linter.deprecated false
set_option linter.all false
namespace Go.Proofs.YtjmghomnbmbjnaaGreat
open Go.Abs
attribute [local congr] ite_congr
set_option maxRecDepth 10000
mutual
def lpS : Stm → List Bytes
  | .mk op name max a b body els => (if decide (op = 6) = true then [name] else []) ++ (lpL body ++ lpL els)
def lpL : List Stm → List Bytes
  | [] => []
  | x :: l => lpS x ++ lpL l
end
theorem lpL_append : ∀ (l m : List Stm), lpL (l ++ m) = lpL l ++ lpL m
  | [], m => rfl
  | x :: l, m => by simp only [List.cons_append, lpL, lpL_append l m, List.append_assoc]
mutual
theorem lpS_len : ∀ (x : Stm) (d : Int), (lpS x).length ≤ (visS x d).length
  | .mk op name max a b body els, d => by
    have h1 := lpL_len body (IntKind.i64.wrap (d + 1))
    have h2 := lpL_len els (IntKind.i64.wrap (d + 1))
    rw [lpS, visS]
    simp only [List.length_append, List.length_cons]
    split <;> simp <;> omega
theorem lpL_len : ∀ (l : List Stm) (d : Int), (lpL l).length ≤ (visSs l d).length
  | [], d => by simp [lpL, visSs]
  | x :: l, d => by
    have h1 := lpS_len x d
    have h2 := lpL_len l d
    rw [lpL, visSs]
    simp only [List.length_append]
    omega
end
theorem gs_afin {f : FuncId} (ho : C.own f = true) (A : AHeap) (l m : List Bytes) : afinR C f (grS A l).2 (grS A (l ++ m)).2 (some (grS A (l ++ m)).1) = some (grS A (l ++ m)) :=
  afin_grow ho (by cases l <;> simp)
def LoGood (l : List Stm) : Prop := ∀ (acc : List Bytes) (A : AHeap), acc.length + (lpL l).length ≤ 4000000 → acl C 23 [(grS A acc).1, .d (.slice (l.map Stm.row))] (grS A acc).2 = some (grS A (acc ++ lpL l))
set_option maxHeartbeats 4000000 in
theorem lo_of (l : List Stm) (hlen : l.length ≤ 4194303) (ih : ∀ x ∈ l, LoGood x.body ∧ LoGood x.els) : LoGood l := by
  intro acc A hl0
  rw [k_call_own (c := C) (f := 23) rfl Tryz.func23 rfl (ok 23 (by kernel_rfl)) rfl Tryz.ntmps23 Tryz.results23 (by simp)]
  simp (maxSteps := 1000000) only [go_sem, acondK_bool, acB_merge, Nat.reduceLT, Nat.reduceLeDiff, Nat.reduceEqDiff, Nat.reduceAdd, Nat.reduceSub, Nat.reduceMul, Nat.reduceBEq, Nat.reduceBNe, Nat.reduceBneDiff, Nat.reduceBeqDiff, Int.reduceToNat, Int.reduceLE, Int.reduceLT, Int.reduceEq, Int.reduceNe, Int.reduceNeg, Int.reduceAdd, Int.reduceSub, ↓reduceIte, reduceCtorEq]
  refine loop_any (fun pre => [(0, .v (grS A (acc ++ lpL pre)).1), (9, .v (.d (.int .i64 (pre.length : Nat)))), (7, .v (.d (.slice (l.map Stm.row)))), (8, .v (.d (.int .i64 (l.length : Nat))))])
    (fun pre => (grS A (acc ++ lpL pre)).2) (fun _ _ => some (grS A (acc ++ lpL l))) l (by rw [lpL, List.append_nil]; rfl) (by rw [lpL, List.append_nil]) rfl ?_
  intro pre suf hl ih2
  have hb : pre.length < 9223372036854775807 := by rw [hl] at hlen; simp at hlen; omega
  have hf : afinR C 23 (grS A acc).2 (grS A (acc ++ lpL pre)).2 (some (grS A (acc ++ lpL pre)).1) = some (grS A (acc ++ lpL pre)) := gs_afin rfl A acc _
  cases suf with
  | nil =>
    rw [List.append_nil] at hl
    subst hl
    have e4 : decide ((l.length : Int) < (l.length : Int)) = false := by simp
    simp (maxSteps := 1000000) only [go_sem, acondK_bool, acB_merge, Nat.reduceLT, Nat.reduceLeDiff, Nat.reduceEqDiff, Nat.reduceAdd, Nat.reduceSub, Nat.reduceMul, Nat.reduceBEq, Nat.reduceBNe, Nat.reduceBneDiff, Nat.reduceBeqDiff, Int.reduceToNat, Int.reduceLE, Int.reduceLT, Int.reduceEq, Int.reduceNe, Int.reduceNeg, Int.reduceAdd, Int.reduceSub, ↓reduceIte, reduceCtorEq, e4, hf]
  | cons x suf =>
    have hx : x ∈ l := by rw [hl]; simp
    have e2 := ih2 x suf rfl
    rw [List.length_append, List.length_cons, List.length_nil, lpL_append] at e2
    have e3 : (l.map Stm.row)[pre.length]? = some (Stm.row x) := by rw [hl]; exact map_mid
    have e4 : decide ((pre.length : Int) < (l.length : Int)) = true := by rw [hl]; simp; omega
    have hn : acc.length + ((lpL pre).length + ((lpS x).length + (lpL suf).length)) ≤ 4000000 := by
      rw [hl, lpL_append, lpL] at hl0
      simp only [List.length_append] at hl0
      omega
    have b1 := (ih x hx).1
    have b2 := (ih x hx).2
    obtain ⟨op, name, max, a, b, body, els⟩ := x
    rw [Stm.row_eq] at e3
    have e5 : lpL [Stm.mk op name max a b body els] = (if decide (op = 6) = true then [name] else []) ++ (lpL body ++ lpL els) := by rw [lpL, lpL, List.append_nil, lpS]
    have e6 : (lpS (.mk op name max a b body els)).length = (if decide (op = 6) = true then [name] else []).length + ((lpL body).length + (lpL els).length) := by rw [lpS]; simp
    rw [e6] at hn
    rw [e5, ← List.append_assoc] at e2
    change LoGood body at b1
    change LoGood els at b2
    generalize hq : acc ++ lpL pre = q at *
    have hql : q.length = acc.length + (lpL pre).length := by rw [← hq]; simp
    cases h6 : decide (op = 6) with
    | false =>
      rw [h6, if_neg (by decide)] at hn e2
      rw [List.nil_append] at e2
      rw [List.length_nil] at hn
      have g1 := b1 q A (by omega)
      have g2 := b2 (q ++ lpL body) A (by simp; omega)
      rw [← List.append_assoc] at e2
      generalize q ++ lpL body = q2 at *
      generalize q2 ++ lpL els = q3 at *
      simp (maxSteps := 1000000) only [go_sem, acondK_bool, acB_merge, Nat.reduceLT, Nat.reduceLeDiff, Nat.reduceEqDiff, Nat.reduceAdd, Nat.reduceSub, Nat.reduceMul, Nat.reduceBEq, Nat.reduceBNe, Nat.reduceBneDiff, Nat.reduceBeqDiff, Int.reduceToNat, Int.reduceLE, Int.reduceLT, Int.reduceEq, Int.reduceNe, Int.reduceNeg, Int.reduceAdd, Int.reduceSub, ↓reduceIte, reduceCtorEq, e3, e4, h6, k_drawn_t, g1, g2]
      refine Eq.trans (ctE_ok (by repeat (first | exact MLe.nil | apply MLe.qq | apply MLe.q | apply MLe.o | apply MLe.b | apply MLe.l)) (by kernel_rfl)) ?_
      simp (maxSteps := 1000000) only [go_sem, acondK_bool, acB_merge, Nat.reduceLT, Nat.reduceLeDiff, Nat.reduceEqDiff, Nat.reduceAdd, Nat.reduceSub, Nat.reduceMul, Nat.reduceBEq, Nat.reduceBNe, Nat.reduceBneDiff, Nat.reduceBeqDiff, Int.reduceToNat, Int.reduceLE, Int.reduceLT, Int.reduceEq, Int.reduceNe, Int.reduceNeg, Int.reduceAdd, Int.reduceSub, ↓reduceIte, reduceCtorEq, e2, wrap_nat hb]
    | true =>
      rw [h6, if_pos rfl] at hn e2
      have a1 := grS_append A q name (by omega)
      have g1 := b1 (q ++ [name]) A (by simp at hn ⊢; omega)
      have g2 := b2 (q ++ [name] ++ lpL body) A (by simp at hn ⊢; omega)
      rw [← List.append_assoc, ← List.append_assoc] at e2
      generalize q ++ [name] = q1 at *
      generalize q1 ++ lpL body = q2 at *
      generalize q2 ++ lpL els = q3 at *
      simp (maxSteps := 1000000) only [go_sem, acondK_bool, acB_merge, Nat.reduceLT, Nat.reduceLeDiff, Nat.reduceEqDiff, Nat.reduceAdd, Nat.reduceSub, Nat.reduceMul, Nat.reduceBEq, Nat.reduceBNe, Nat.reduceBneDiff, Nat.reduceBeqDiff, Int.reduceToNat, Int.reduceLE, Int.reduceLT, Int.reduceEq, Int.reduceNe, Int.reduceNeg, Int.reduceAdd, Int.reduceSub, ↓reduceIte, reduceCtorEq, e3, e4, h6, a1, k_drawn_t, g1, g2]
      refine Eq.trans (ctE_ok (by repeat (first | exact MLe.nil | apply MLe.qq | apply MLe.q | apply MLe.o | apply MLe.b | apply MLe.l)) (by kernel_rfl)) ?_
      simp (maxSteps := 1000000) only [go_sem, acondK_bool, acB_merge, Nat.reduceLT, Nat.reduceLeDiff, Nat.reduceEqDiff, Nat.reduceAdd, Nat.reduceSub, Nat.reduceMul, Nat.reduceBEq, Nat.reduceBNe, Nat.reduceBneDiff, Nat.reduceBeqDiff, Int.reduceToNat, Int.reduceLE, Int.reduceLT, Int.reduceEq, Int.reduceNe, Int.reduceNeg, Int.reduceAdd, Int.reduceSub, ↓reduceIte, reduceCtorEq, e2, wrap_nat hb]
theorem lo_in : ∀ x : Stm, x.Ok → LoGood x.body ∧ LoGood x.els := by
  intro x
  induction x using Stm.ind with
  | h op name max a b body els ihb ihe =>
    intro hok
    obtain ⟨f1, f2⟩ := stmFit2 hok
    exact ⟨lo_of body f1 (fun y hy => ihb y hy (Stm.Ok.bodyOk hok y hy)), lo_of els f2 (fun y hy => ihe y hy (Stm.Ok.elsOk hok y hy))⟩
theorem loopsP (p : Pr) (hp : p.Ok) : LoGood p.body := lo_of p.body hp.bfit fun x hx => lo_in x (hp.body x hx)
def lpV : List Vis → List Bytes
  | [] => []
  | .s x _ :: l => if decide (x.op = 6) = true then x.name :: lpV l else lpV l
  | .e _ _ :: l => lpV l
theorem lpV_append : ∀ (l m : List Vis), lpV (l ++ m) = lpV l ++ lpV m
  | [], _ => rfl
  | .s x d :: l, m => by
    simp only [List.cons_append, lpV]
    split
    · rw [lpV_append l m]; rfl
    · exact lpV_append l m
  | .e x r :: l, m => lpV_append l m
mutual
theorem lpV_E : ∀ (e : E) (r : Bool), lpV (visE e r) = []
  | .mk op n s args, r => by rw [visE, lpV, lpV_Es args]
theorem lpV_Es : ∀ l : List E, lpV (visEs l) = []
  | [] => rfl
  | x :: l => by rw [visEs, lpV_append, lpV_E, lpV_Es l]; rfl
end
theorem lpV_opt (e : E) : lpV (if absE e = true then [] else visE e true) = [] := by
  split
  · rfl
  · exact lpV_E e true
mutual
theorem lpV_S : ∀ (x : Stm) (d : Int), lpV (visS x d) = lpS x
  | .mk op name max a b body els, d => by
    rw [visS, lpS]
    simp only [lpV, lpV_append]
    rw [lpV_opt, lpV_opt, lpV_L body, lpV_L els]
    show (if decide (op = 6) = true then _ else _) = _
    split <;> simp [Stm.name]
theorem lpV_L : ∀ (l : List Stm) (d : Int), lpV (visSs l d) = lpL l
  | [], d => rfl
  | x :: l, d => by rw [visSs, lpV_append, lpV_S, lpV_L l, lpL]
end
def slV : List Vis → List Bytes
  | [] => []
  | .s x _ :: l => (if decide (x.op = 1) = true then [x.name] else if decide (x.op = 6) = true then [x.name, []] else []) ++ slV l
  | .e _ _ :: l => slV l
theorem slV_len : ∀ l : List Vis, (slV l).length ≤ 2 * l.length
  | [] => Nat.le_refl _
  | .s x d :: l => by
    have := slV_len l
    simp only [slV, List.length_append, List.length_cons]
    split
    · simp; omega
    · split <;> simp <;> omega
  | .e x r :: l => by
    have := slV_len l
    simp only [slV, List.length_cons]
    omega
def dbl (L : List Bytes) (n : Bytes) : List Bytes := if hasN L n = true then [n, []] else [n]
theorem sl_flat (L : List Bytes) : ∀ l : List Vis, (∀ x d, Vis.s x d ∈ l → x.op = 6 → hasN L x.name = true) → (∀ x d, Vis.s x d ∈ l → x.op = 1 → hasN L x.name = false) → (namesV l).flatMap (dbl L) = slV l
  | [], _, _ => rfl
  | .e x r :: l, h1, h2 => sl_flat L l (fun x d hm => h1 x d (List.mem_cons_of_mem _ hm)) (fun x d hm => h2 x d (List.mem_cons_of_mem _ hm))
  | .s x d :: l, h1, h2 => by
    have ih := sl_flat L l (fun x d hm => h1 x d (List.mem_cons_of_mem _ hm)) (fun x d hm => h2 x d (List.mem_cons_of_mem _ hm))
    have g1 := h1 x d (by simp)
    have g2 := h2 x d (by simp)
    simp only [namesV, slV]
    by_cases o1 : x.op = 1
    · have d1 : decide (x.op = 1) = true := by simpa using o1
      rw [d1, Bool.true_or, if_pos rfl, if_pos rfl, List.flatMap_cons, ih, dbl, g2 o1, if_neg (by decide)]
    · have d1 : decide (x.op = 1) = false := by simpa using o1
      rw [d1, Bool.false_or, if_neg (by decide : ¬ false = true)]
      by_cases o6 : x.op = 6
      · have d6 : decide (x.op = 6) = true := by simpa using o6
        rw [d6, if_pos rfl, if_pos rfl, List.flatMap_cons, ih, dbl, g1 o6, if_pos rfl]
      · have d6 : decide (x.op = 6) = false := by simpa using o6
        rw [d6, if_neg (by decide), if_neg (by decide), ih, List.nil_append]
theorem lpV_mem {x : Stm} {d : Int} (ho : x.op = 6) : ∀ l : List Vis, Vis.s x d ∈ l → x.name ∈ lpV l
  | [], h => by cases h
  | .s y k :: l, h => by
    simp only [lpV]
    rcases List.mem_cons.1 h with h | h
    · injection h with h1 h2
      subst h1
      rw [if_pos (by simpa using ho)]
      simp
    · have := lpV_mem ho l h
      split
      · exact List.mem_cons_of_mem _ this
      · exact this
  | .e y k :: l, h => by
    rcases List.mem_cons.1 h with h | h
    · cases h
    · exact lpV_mem ho l h
theorem lpV_names : ∀ (l : List Vis), ∀ n ∈ lpV l, n ∈ namesV l
  | [], n, h => by cases h
  | .e y k :: l, n, h => lpV_names l n h
  | .s y k :: l, n, h => by
    simp only [lpV] at h
    simp only [namesV]
    split at h
    · rename_i h6
      rw [if_pos (by rw [h6, Bool.or_true])]
      rcases List.mem_cons.1 h with rfl | h
      · simp
      · exact List.mem_cons_of_mem _ (lpV_names l n h)
    · have := lpV_names l n h
      split
      · exact List.mem_cons_of_mem _ this
      · exact this
theorem let_names {x : Stm} {d : Int} (ho : x.op = 1) : ∀ l : List Vis, Vis.s x d ∈ l → x.name ∈ namesV l
  | [], h => by cases h
  | .s y k :: l, h => by
    simp only [namesV]
    rcases List.mem_cons.1 h with h | h
    · injection h with h1 h2
      subst h1
      rw [if_pos (by simp [ho])]
      simp
    · have := let_names ho l h
      split
      · exact List.mem_cons_of_mem _ this
      · exact this
  | .e y k :: l, h => by
    rcases List.mem_cons.1 h with h | h
    · cases h
    · exact let_names ho l h
theorem let_notin {x : Stm} {d : Int} (ho : x.op = 1) : ∀ l : List Vis, (namesV l).Nodup → Vis.s x d ∈ l → x.name ∉ lpV l
  | [], _, h => by cases h
  | .e y k :: l, hn, h => by
    rcases List.mem_cons.1 h with h | h
    · cases h
    · exact let_notin ho l hn h
  | .s y k :: l, hn, h => by
    simp only [namesV] at hn
    simp only [lpV]
    rcases List.mem_cons.1 h with h | h
    · injection h with h1 h2
      subst h1
      rw [if_pos (by simp [ho])] at hn
      rw [if_neg (by simp [ho])]
      exact fun hm => (List.nodup_cons.1 hn).1 (lpV_names l _ hm)
    · by_cases h6 : decide (y.op = 6) = true
      · rw [if_pos h6]
        rw [if_pos (by rw [h6, Bool.or_true])] at hn
        intro hm
        rcases List.mem_cons.1 hm with hm | hm
        · exact (List.nodup_cons.1 hn).1 (hm ▸ let_names ho l h)
        · exact let_notin ho l (List.nodup_cons.1 hn).2 h hm
      · rw [if_neg h6]
        have hn2 : (namesV l).Nodup := by
          split at hn
          · exact (List.nodup_cons.1 hn).2
          · exact hn
        exact let_notin ho l hn2 h
def slotsS (p : Pr) : List Bytes := if decide (chkS p = 0) = true then paramNames p ++ slV (visP p) else []
theorem hasN_memC {l : List Bytes} {w : Bytes} : hasN l w = true ↔ w ∈ l := by
  unfold hasN
  rw [List.any_eq_true]
  constructor
  · rintro ⟨j, hj, he⟩
    have : w = j := by simpa using he
    exact this ▸ hj
  · exact fun h => ⟨w, h, by simp⟩
theorem slots_eq {p : Pr} (hc : chkS p = 0) : (allV p).flatMap (fun x => dbl (lpL p.body) x.name) = paramNames p ++ slV (visP p) := by
  obtain ⟨V, hbl, hd, h0, hk⟩ := chk_zero hc
  have hn := ((dupR_false _ _).1 hd).1
  have e1 : (allV p).flatMap (fun x => dbl (lpL p.body) x.name) = (namesS p).flatMap (dbl (lpL p.body)) := by
    rw [← allV_names V, List.flatMap_map]
  rw [e1]
  have e2 : lpL p.body = lpV (visP p) := by rw [V.vis, lpV_L]
  rw [e2]
  unfold namesS at hn ⊢
  rw [List.nodup_append] at hn
  rw [List.flatMap_append]
  have e3 : (paramNames p).flatMap (dbl (lpV (visP p))) = paramNames p := by
    have hno : ∀ n ∈ paramNames p, hasN (lpV (visP p)) n = false := by
      intro n hm
      cases h : hasN (lpV (visP p)) n with
      | false => rfl
      | true => exact absurd rfl (hn.2.2 n hm n (lpV_names _ n (hasN_memC.1 h)))
    generalize paramNames p = P at hno
    induction P with
    | nil => rfl
    | cons x l ih =>
      rw [List.flatMap_cons, ih (fun n hm => hno n (List.mem_cons_of_mem _ hm)), dbl, hno x (by simp), if_neg (by decide)]
      rfl
  rw [e3, sl_flat (lpV (visP p)) (visP p) (fun x d hm ho => hasN_memC.2 (lpV_mem ho _ hm)) (fun x d hm ho => by
    cases h : hasN (lpV (visP p)) x.name with
    | false => rfl
    | true => exact absurd (hasN_memC.1 h) (let_notin ho _ hn.2.1 hm))]
end Go.Proofs.YtjmghomnbmbjnaaGreat
set_option linter.all false
namespace Go.Proofs.YtjmghomnbmbjnaaGreat
open Go.Abs
attribute [local congr] ite_congr
set_option maxRecDepth 10000
noncomputable abbrev hF (A : AHeap) (L : List Bytes) (fr : Nat) : AHeap := (grF A 9 1 (L.map sRow) fr).2
theorem grS_fst_len {A B : AHeap} (h : A.bufs.length = B.bufs.length) (l : List Bytes) : (grS A l).1 = (grS B l).1 := by
  unfold grS agrow
  split
  · rfl
  · rw [h]
theorem hF_len (A : AHeap) (L : List Bytes) (a b : Nat) : (hF A L a).bufs.length = (hF A L b).bufs.length := grF_len ..
theorem two_append (A : AHeap) (L l : List Bytes) (fr : Nat) (x : Bytes) (h : l.length ≤ 4194303) :
    aappend Tryz.prog 9 1 (grS (hF A L fr) l).2 (grS (hF A L 0) l).1 [[.str x]] = some ((grS (hF A L 0) (l ++ [x])).1, (grS (hF A L fr) (l ++ [x])).2) := by
  rw [grS_fst_len (hF_len A L 0 fr) l, grS_append (hF A L fr) l x h, grS_fst_len (hF_len A L 0 fr) (l ++ [x])]
theorem two_clean (A : AHeap) (L l : List Bytes) (fr : Nat) : acleanV (grS (hF A L fr) l).2 (grF A 9 1 (L.map sRow) 0).1 = (.d (.slice (L.map sRow)), (grS (hF A L (L.map sRow).length) l).2) := by
  unfold hF grS agrow grF
  by_cases h1 : L.map sRow = []
  · simp only [h1, if_true, acleanV, aclean, List.length_nil]
  · by_cases h2 : l.map sRow = []
    · simp only [if_neg h1, h2, if_true, acleanV, aclean, arows]
      simp only [List.getElem?_append_right (Nat.le_refl _), Nat.sub_self, List.getElem?_cons_zero, if_true]
      simp [AHeap.freeze, modify_last]
    · simp only [if_neg h1, if_neg h2, acleanV, aclean, arows]
      simp only [List.append_assoc, List.getElem?_append_right (Nat.le_refl _), Nat.sub_self, List.cons_append, List.getElem?_cons_zero, if_true]
      simp [AHeap.freeze, modify_at]
theorem two_objs (A : AHeap) (L l : List Bytes) (fr : Nat) : (grS (hF A L fr) l).2.objs = A.objs := by
  unfold hF grS agrow grF
  split <;> split <;> rfl
theorem two_len (A : AHeap) (L l : List Bytes) (a b : Nat) : (grS (hF A L a) l).2.bufs.length = (grS (hF A L b) l).2.bufs.length := by
  unfold hF grS agrow grF
  split <;> split <;> simp
theorem two_fin {f : FuncId} (ho : C.own f = false) (A : AHeap) (L l : List Bytes) (fr : Nat) : afinR C f A (grS (hF A L fr) l).2 (some (grS (hF A L 0) l).1) = some (.d (.slice (l.map sRow)), A) := by
  simp only [afinR, Option.map_some, afinish, ho, Bool.false_eq_true, if_false]
  unfold hF grS agrow grF
  by_cases h1 : L.map sRow = [] <;> by_cases h2 : l.map sRow = []
  · simp only [h1, h2, if_true, acleanR, acleanV, aclean]
    rw [acut_same rfl]
  · simp only [h1, if_true, if_neg h2, acleanR, acleanV, aclean, arows]
    simp only [List.getElem?_append_right (Nat.le_refl _), Nat.sub_self, List.getElem?_cons_zero, if_true]
    unfold acut
    simp [AHeap.freeze, AV.noptr, AV.noptr2, AV.noptr1]
    rw [List.take_modify_front]
  · simp only [if_neg h1, h2, if_true, acleanR, acleanV, aclean]
    unfold acut
    simp [AV.noptr, AV.noptr2, AV.noptr1]
  · simp only [if_neg h1, if_neg h2, acleanR, acleanV, aclean, arows]
    simp only [List.getElem?_append_right (Nat.le_refl _), Nat.sub_self, List.getElem?_cons_zero, if_true, List.length_append, List.length_cons, List.length_nil]
    unfold acut
    have e : ∀ (b c : ABuf) (f : ABuf → ABuf), ((A.bufs ++ [b] ++ [c]).modify (A.bufs.length + 1) f) = A.bufs ++ [b] ++ [f c] := by
      intro b c f
      have := modify_last f (A.bufs ++ [b]) c
      simpa using this
    simp [AHeap.freeze, AV.noptr, AV.noptr2, AV.noptr1]
    have e2 := e
    simp only [List.append_assoc, List.cons_append, List.nil_append] at e2
    rw [e2]
    simp
theorem contains2 (A : AHeap) (L l : List Bytes) (hL : L.length ≤ 1099511627776) (fr : Nat) (w : Bytes) :
    acl C 25 [(grF A 9 1 (L.map sRow) 0).1, .d (.str w)] (grS (hF A L fr) l).2 = some (.d (.bool (hasN L w)), (grS (hF A L (L.map sRow).length) l).2) := by
  rw [← containsS L hL w (grS (hF A L (L.map sRow).length) l).2]
  refine acl_clean rfl Tryz.func25 rfl (ok 25 (by kernel_rfl)) (by rw [Tryz.ntmps25]; simp) (by rw [Tryz.ntmps25]; simp) rfl ?_ rfl (by rw [two_objs, two_objs]) (two_len ..)
  have hd : ∀ (x : Dat) (B : AHeap), acleanV B (.d x) = (.d x, B) := fun _ _ => rfl
  simp only [acleanVs, two_clean, hd]
theorem dbl_len (L : List Bytes) : ∀ l : List Pm, (l.flatMap (fun x => dbl L x.name)).length ≤ 2 * l.length
  | [] => Nat.le_refl _
  | x :: l => by
    have := dbl_len L l
    rw [List.flatMap_cons, List.length_append, List.length_cons]
    have h : (dbl L x.name).length ≤ 2 := by unfold dbl; split <;> simp
    omega
section
variable {F : AF} {ks : List KF} {body : Code} {env : AEnv} {A : AHeap} {r : Option (AV × AHeap)}
theorem loop_invI {α σ : Type} (mk : List α → σ → AEnv) (H : List α → σ → AHeap) (l : List α) (s0 : σ)
    (henv : env = mk [] s0) (hA : A = H [] s0)
    (h : ∀ pre suf s, l = pre ++ suf → (∀ x suf' s', suf = x :: suf' → cloop F ks body (mk (pre ++ [x]) s') (H (pre ++ [x]) s') = r) → cek F (.loop body :: ks) body (mk pre s) (H pre s) = r) :
    cloop F ks body env A = r := by
  have key : ∀ (suf pre : List α) (s : σ), l = pre ++ suf → cloop F ks body (mk pre s) (H pre s) = r := by
    intro suf
    induction suf with
    | nil => intro pre s hl; exact h pre [] s hl (fun x s hs e => by cases e)
    | cons x suf ih =>
      intro pre s hl
      refine h pre (x :: suf) s hl (fun y t s' e => ?_)
      injection e with e1 e2
      subst e1
      exact ih (pre ++ [x]) s' (by rw [hl]; simp)
  rw [henv, hA]
  exact key l [] s0 rfl
end
set_option maxHeartbeats 4000000 in
theorem slotsP (p : Pr) (hp : p.Ok) (h40 : p.params.length ≤ 40) (A : AHeap) : acl C 9 [Pr.av p] A = some (.d (.slice ((slotsS p).map sRow)), A) := by
  have k1 := checkOf p hp h40 A
  rw [k_call (c := C) (f := 9) rfl Tryz.func9 rfl (ok 9 (by kernel_rfl)) rfl Tryz.ntmps9 Tryz.results9 (by simp)]
  by_cases hc : chkS p = 0
  · have hc' : decide (chkS p = 0) = true := by simpa using hc
    obtain ⟨V, hbl, hd, h0, hk⟩ := chk_zero hc
    have hlp : (lpL p.body).length ≤ 400 := by
      have := lpL_len p.body 1
      have := V.len
      omega
    have l1 := loopsP p hp [] A (by simp; omega)
    rw [List.nil_append] at l1
    change acl C 23 [.nilS, .d (.slice (p.body.map Stm.row))] A = _ at l1
    have vv : varsS p = allV p := by unfold varsS; rw [if_pos hc']
    have v1 := fun B => varsOf p hp h40 B
    rw [vv] at v1
    have hse := slots_eq hc
    have hss : slotsS p = paramNames p ++ slV (visP p) := by unfold slotsS; rw [if_pos hc']
    rw [hss, ← hse]
    have hvl : (allV p).length ≤ 441 := by
      have := namesS_len p h40
      rw [← allV_names V] at this
      simpa using this
    generalize lpL p.body = L at *
    generalize allV p = T at *
    simp (maxSteps := 1000000) only [go_sem, acondK_bool, acB_merge, Nat.reduceLT, Nat.reduceLeDiff, Nat.reduceEqDiff, Nat.reduceAdd, Nat.reduceSub, Nat.reduceMul, Nat.reduceBEq, Nat.reduceBNe, Nat.reduceBneDiff, Nat.reduceBeqDiff, Int.reduceToNat, Int.reduceLE, Int.reduceLT, Int.reduceEq, Int.reduceNe, Int.reduceNeg, Int.reduceAdd, Int.reduceSub, ↓reduceIte, reduceCtorEq, k1, hc', l1, v1]
    refine loop_invI (fun (pre : List Pm) (fr : Nat) => [(3, .v (grS (hF A L 0) (pre.flatMap (fun x => dbl L x.name))).1), (16, .v (.d (.int .i64 (pre.length : Nat)))), (4, .v (grF A 9 1 (L.map sRow) 0).1), (14, .v (.d (.slice (T.map Pm.row)))), (15, .v (.d (.int .i64 (T.length : Nat))))])
      (fun pre fr => (grS (hF A L fr) (pre.flatMap (fun x => dbl L x.name))).2) T 0 rfl rfl ?_
    intro pre suf fr hl ih
    have hb : pre.length < 9223372036854775807 := by rw [hl] at hvl; simp at hvl; omega
    have hf := two_fin (f := 9) rfl A L (pre.flatMap (fun x => dbl L x.name)) fr
    have hol := dbl_len L pre
    cases suf with
    | nil =>
      rw [List.append_nil] at hl
      subst hl
      have e4 : decide ((T.length : Int) < (T.length : Int)) = false := by simp
      simp (maxSteps := 1000000) only [go_sem, acondK_bool, acB_merge, Nat.reduceLT, Nat.reduceLeDiff, Nat.reduceEqDiff, Nat.reduceAdd, Nat.reduceSub, Nat.reduceMul, Nat.reduceBEq, Nat.reduceBNe, Nat.reduceBneDiff, Nat.reduceBeqDiff, Int.reduceToNat, Int.reduceLE, Int.reduceLT, Int.reduceEq, Int.reduceNe, Int.reduceNeg, Int.reduceAdd, Int.reduceSub, ↓reduceIte, reduceCtorEq, e4, hf]
    | cons x suf =>
      have e2 := fun fr' => ih x suf fr' rfl
      rw [List.length_append, List.length_cons, List.length_nil, List.flatMap_append, List.flatMap_cons, List.flatMap_nil, List.append_nil] at e2
      have e3 : (T.map Pm.row)[pre.length]? = some [.str x.name, .int .i64 x.type] := by rw [hl]; exact map_mid
      have e4 : decide ((pre.length : Int) < (T.length : Int)) = true := by rw [hl]; simp; omega
      have hpl : pre.length ≤ 441 := by rw [hl] at hvl; simp at hvl; omega
      generalize pre.flatMap (fun x => dbl L x.name) = q at *
      have a1 := two_append A L q fr x.name (by omega)
      have c1 := contains2 A L (q ++ [x.name]) (by omega) fr x.name
      cases h : hasN L x.name with
      | false =>
        have hd : dbl L x.name = [x.name] := by unfold dbl; rw [h, if_neg (by decide)]
        rw [hd] at e2
        rw [h] at c1
        simp (maxSteps := 1000000) only [go_sem, acondK_bool, acB_merge, Nat.reduceLT, Nat.reduceLeDiff, Nat.reduceEqDiff, Nat.reduceAdd, Nat.reduceSub, Nat.reduceMul, Nat.reduceBEq, Nat.reduceBNe, Nat.reduceBneDiff, Nat.reduceBeqDiff, Int.reduceToNat, Int.reduceLE, Int.reduceLT, Int.reduceEq, Int.reduceNe, Int.reduceNeg, Int.reduceAdd, Int.reduceSub, ↓reduceIte, reduceCtorEq, e3, e4, a1, c1, e2, wrap_nat hb]
      | true =>
        have hd : dbl L x.name = [x.name] ++ [[]] := by unfold dbl; rw [h, if_pos rfl]; rfl
        rw [hd, ← List.append_assoc] at e2
        rw [h] at c1
        have a2 := two_append A L (q ++ [x.name]) L.length [] (by simp; omega)
        generalize q ++ [x.name] = q1 at *
        generalize q1 ++ [[]] = q2 at *
        simp (maxSteps := 1000000) only [go_sem, acondK_bool, acB_merge, Nat.reduceLT, Nat.reduceLeDiff, Nat.reduceEqDiff, Nat.reduceAdd, Nat.reduceSub, Nat.reduceMul, Nat.reduceBEq, Nat.reduceBNe, Nat.reduceBneDiff, Nat.reduceBeqDiff, Int.reduceToNat, Int.reduceLE, Int.reduceLT, Int.reduceEq, Int.reduceNe, Int.reduceNeg, Int.reduceAdd, Int.reduceSub, ↓reduceIte, reduceCtorEq, e3, e4, a1, c1, a2, e2, wrap_nat hb]
  · have hc' : decide (chkS p = 0) = false := by simpa using hc
    have : slotsS p = [] := by unfold slotsS; rw [if_neg (by simpa using hc)]
    rw [this]
    simp (maxSteps := 1000000) only [go_sem, acondK_bool, acB_merge, Nat.reduceLT, Nat.reduceLeDiff, Nat.reduceEqDiff, Nat.reduceAdd, Nat.reduceSub, Nat.reduceMul, Nat.reduceBEq, Nat.reduceBNe, Nat.reduceBneDiff, Nat.reduceBeqDiff, Int.reduceToNat, Int.reduceLE, Int.reduceLT, Int.reduceEq, Int.reduceNe, Int.reduceNeg, Int.reduceAdd, Int.reduceSub, ↓reduceIte, reduceCtorEq, k1, hc']
end Go.Proofs.YtjmghomnbmbjnaaGreat
set_option linter.all false
namespace Go.Proofs.YtjmghomnbmbjnaaGreat
open Go.Abs
attribute [local congr] ite_congr
set_option maxRecDepth 10000
theorem visP_lenC (p : Pr) : (visP p).length ≤ 401 := by unfold visP; rw [List.length_take]; omega
theorem slots_len (p : Pr) (h40 : p.params.length ≤ 40) : (slotsS p).length ≤ 842 := by
  unfold slotsS
  split
  · have := slV_len (visP p)
    have := visP_lenC p
    unfold paramNames
    simp
    omega
  · simp
end Go.Proofs.YtjmghomnbmbjnaaGreat
