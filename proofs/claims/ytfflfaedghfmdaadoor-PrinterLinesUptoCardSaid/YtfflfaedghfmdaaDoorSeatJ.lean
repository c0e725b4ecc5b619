/- The writer: a line. -/
import Derived.Test.YtfflfaedghfmdaaDoorSeatH
import Derived.Test.YtfflfaedghfmdaaDoorSeatC
import Derived.Test.YtfflfaedghfmdaaDoorSeatI
set_option linter.unusedVariables false
set_option linter.unusedSimpArgs false
set_option linter.all false
set_option linter.deprecated false
set_option linter.all false
namespace Go.Proofs.YtfflfaedghfmdaaDoor
open Go.Abs
attribute [local congr] ite_congr
set_option maxRecDepth 100000
def indS (d : Nat) : Bytes := (List.replicate d [32, 32, 32, 32]).flatten
def lineS (d : Nat) (parts : List Bytes) : Bytes := indS d ++ (parts.flatten ++ [10])
def strR (s : Bytes) : List Dat := [.str s]
theorem indS_len (d : Nat) : (indS d).length = 4 * d := by
  unfold indS
  induction d with
  | zero => rfl
  | succ d ih => rw [List.replicate_succ, List.flatten_cons, List.length_append, ih]; simp; omega
theorem indS_succ (d : Nat) : indS (d + 1) = indS d ++ [32, 32, 32, 32] := by
  unfold indS
  rw [List.replicate_succ']
  simp
theorem lineS_len (d : Nat) (parts : List Bytes) : (lineS d parts).length = 4 * d + parts.flatten.length + 1 := by
  unfold lineS
  simp [indS_len]
  omega
theorem wT : bldOk 64 62 64 3 = true := by rfl
/-- the writer: its text and its depth -/
noncomputable abbrev wtH (A : AHeap) (u : Bool) (s : Bytes) (d : Int) : AHeap := wrH A 64 u s [.d (.int .i64 d)]
theorem wWS (A : AHeap) (u : Bool) (s : Bytes) (d : Int) (t : Bytes) (h : s.length + t.length ≤ 4000000) : acl C 43 [.ptr A.objs.length 0, .d (.str t)] (wtH A u s d) = some (.tuple [.d (.int .i64 (t.length : Nat)), .nilI], wtH A true (s ++ t) d) := writeString A 64 u s [.d (.int .i64 d)] wT t h
theorem wWB (A : AHeap) (u : Bool) (s : Bytes) (d : Int) (h : s.length ≤ 4000000) : acl C 44 [.ptr A.objs.length 0, .d (.int .u8 10)] (wtH A u s d) = some (.nilI, wtH A true (s ++ [10]) d) := writeByte A 64 u s [.d (.int .i64 d)] wT 10 h
theorem bor_snoc {α : Type} (u : Bool) (l : List α) (x : α) : (u || !(l ++ [x]).isEmpty) = true := by simp
set_option maxHeartbeats 1000000 in
theorem lineP (A : AHeap) (u : Bool) (s : Bytes) (d : Nat) (parts : List Bytes) (hp : parts.length ≤ 1000) (h : s.length + (lineS d parts).length ≤ 4000000) : acl C 24 [.ptr A.objs.length 0, .full (parts.map strR)] (wtH A u s d) = some (.tuple [], wtH A true (s ++ lineS d parts) d) := by
  rw [lineS_len] at h
  have hob := wr_obj A 64 u s [.d (.int .i64 d)]
  have fin : afinR C 24 (wtH A u s d) (wtH A true (s ++ lineS d parts) d) (some (.tuple [])) = some (.tuple [], wtH A true (s ++ lineS d parts) d) := wr_fin (f := 24) rfl A 64 u s (lineS d parts) [.d (.int .i64 d)] (v := .tuple []) rfl
  rw [k_call (c := C) (f := 24) rfl Tryd.func24 rfl (ok 24 (by kernel_rfl)) rfl Tryd.ntmps24 Tryd.results24 (by simp)]
  simp (maxSteps := 1000000) only [go_sem, acondK_bool, acB_merge, Nat.reduceLT, Nat.reduceLeDiff, Nat.reduceEqDiff, Nat.reduceAdd, Nat.reduceSub, Nat.reduceMul, Nat.reduceBEq, Nat.reduceBNe, Nat.reduceBneDiff, Nat.reduceBeqDiff, Int.reduceToNat, Int.reduceLE, Int.reduceLT, Int.reduceEq, Int.reduceNe, Int.reduceNeg, Int.reduceAdd, Int.reduceSub, ↓reduceIte, reduceCtorEq, hob]
  refine loop_any (fun pre => [(10, .v (.d (.int .i64 (pre.length : Nat)))), (0, .v (.ptr A.objs.length 0)), (1, .v (.d (.slice (parts.map strR)))), (9, .v (.d (.int .i64 (d : Nat))))]) (fun pre => wtH A (u || !pre.isEmpty) (s ++ indS pre.length) d) (fun _ _ => some (.tuple [], wtH A true (s ++ lineS d parts) d)) (List.replicate d ()) rfl (by simp [indS]) rfl ?_
  intro pre suf hl ih
  have hle : pre.length + suf.length = d := by rw [← List.length_append, ← hl, List.length_replicate]
  cases suf with
  | cons x suf =>
    have e1 : decide ((pre.length : Int) < (d : Int)) = true := by simp at hle; simp; omega
    have ih' := ih x suf rfl
    rw [bor_snoc, List.length_append, List.length_cons, List.length_nil, Nat.zero_add, indS_succ, ← List.append_assoc] at ih'
    have w1 := wWS A (u || !pre.isEmpty) (s ++ indS pre.length) d [32, 32, 32, 32] (by simp [indS_len]; simp at hle; omega)
    have w2 : IntKind.i64.wrap ((pre.length : Int) + 1) = ((pre.length + 1 : Nat) : Int) := wrap_nat (by omega)
    generalize wtH A (u || !pre.isEmpty) (s ++ indS pre.length) d = H1 at *
    generalize wtH A true (s ++ indS pre.length ++ [32, 32, 32, 32]) d = H2 at *
    simp (maxSteps := 1000000) only [go_sem, acondK_bool, acB_merge, Nat.reduceLT, Nat.reduceLeDiff, Nat.reduceEqDiff, Nat.reduceAdd, Nat.reduceSub, Nat.reduceMul, Nat.reduceBEq, Nat.reduceBNe, Nat.reduceBneDiff, Nat.reduceBeqDiff, Int.reduceToNat, Int.reduceLE, Int.reduceLT, Int.reduceEq, Int.reduceNe, Int.reduceNeg, Int.reduceAdd, Int.reduceSub, ↓reduceIte, reduceCtorEq, e1, w1, w2, ih']
  | nil =>
    have e1 : decide ((pre.length : Int) < (d : Int)) = false := by simp at hle; simp; omega
    have hd : pre.length = d := by simpa using hle
    rw [hd] at e1 ⊢
    generalize (u || !pre.isEmpty) = u1
    clear ih hl pre hle hd
    generalize hI : indS d = I at *
    have hIl : I.length = 4 * d := by rw [← hI]; exact indS_len d
    have hfl : lineS d parts = I ++ (parts.flatten ++ [10]) := by unfold lineS; rw [hI]
    rw [hfl] at fin ⊢
    generalize hH : wtH A u1 (s ++ I) d = H1
    simp (maxSteps := 1000000) only [go_sem, acondK_bool, acB_merge, Nat.reduceLT, Nat.reduceLeDiff, Nat.reduceEqDiff, Nat.reduceAdd, Nat.reduceSub, Nat.reduceMul, Nat.reduceBEq, Nat.reduceBNe, Nat.reduceBneDiff, Nat.reduceBeqDiff, Int.reduceToNat, Int.reduceLE, Int.reduceLT, Int.reduceEq, Int.reduceNe, Int.reduceNeg, Int.reduceAdd, Int.reduceSub, ↓reduceIte, reduceCtorEq, e1]
    rw [← hH]
    clear hH
    refine loop_any (fun pre => [(19, .v (.d (.int .i64 (pre.length : Nat)))), (0, .v (.ptr A.objs.length 0)), (17, .v (.d (.slice (parts.map strR)))), (18, .v (.d (.int .i64 (parts.length : Nat))))]) (fun pre => wtH A (u1 || !pre.isEmpty) (s ++ I ++ pre.flatten) d) (fun _ _ => some (.tuple [], wtH A true (s ++ (I ++ (parts.flatten ++ [10]))) d)) parts rfl (by simp) rfl ?_
    intro pre suf hl ih
    cases suf with
    | nil =>
      rw [List.append_nil] at hl
      subst hl
      have e1 : decide ((parts.length : Int) < (parts.length : Int)) = false := by simp
      have w1 := wWB A (u1 || !parts.isEmpty) (s ++ I ++ parts.flatten) d (by simp only [List.length_append]; omega)
      have hq : s ++ I ++ parts.flatten ++ [10] = s ++ (I ++ (parts.flatten ++ [10])) := by simp
      rw [hq] at w1
      generalize wtH A true (s ++ (I ++ (parts.flatten ++ [10]))) d = H3 at *
      generalize wtH A (u1 || !parts.isEmpty) (s ++ I ++ parts.flatten) d = H2 at *
      simp (maxSteps := 1000000) only [go_sem, acondK_bool, acB_merge, Nat.reduceLT, Nat.reduceLeDiff, Nat.reduceEqDiff, Nat.reduceAdd, Nat.reduceSub, Nat.reduceMul, Nat.reduceBEq, Nat.reduceBNe, Nat.reduceBneDiff, Nat.reduceBeqDiff, Int.reduceToNat, Int.reduceLE, Int.reduceLT, Int.reduceEq, Int.reduceNe, Int.reduceNeg, Int.reduceAdd, Int.reduceSub, ↓reduceIte, reduceCtorEq, e1, w1, fin]
    | cons x suf =>
      have hfl2 : parts.flatten.length = pre.flatten.length + x.length + suf.flatten.length := by rw [hl, List.flatten_append, List.flatten_cons]; simp only [List.length_append]; omega
      have e1 : decide ((pre.length : Int) < (parts.length : Int)) = true := by rw [hl]; simp; omega
      have e3 : (parts.map strR)[pre.length]? = some [.str x] := by rw [hl]; exact map_mid
      have ih' := ih x suf rfl
      have hfl3 : (pre ++ [x]).flatten = pre.flatten ++ x := by simp
      rw [bor_snoc, List.length_append, List.length_cons, List.length_nil, Nat.zero_add, hfl3, ← List.append_assoc] at ih'
      have w1 := wWS A (u1 || !pre.isEmpty) (s ++ I ++ pre.flatten) d x (by simp only [List.length_append]; omega)
      have hpl : pre.length ≤ parts.length := by rw [hl]; simp
      have w2 : IntKind.i64.wrap ((pre.length : Int) + 1) = ((pre.length + 1 : Nat) : Int) := wrap_nat (by omega)
      generalize wtH A (u1 || !pre.isEmpty) (s ++ I ++ pre.flatten) d = H2 at *
      generalize wtH A true (s ++ I ++ pre.flatten ++ x) d = H3 at *
      simp (maxSteps := 1000000) only [go_sem, acondK_bool, acB_merge, Nat.reduceLT, Nat.reduceLeDiff, Nat.reduceEqDiff, Nat.reduceAdd, Nat.reduceSub, Nat.reduceMul, Nat.reduceBEq, Nat.reduceBNe, Nat.reduceBneDiff, Nat.reduceBeqDiff, Int.reduceToNat, Int.reduceLE, Int.reduceLT, Int.reduceEq, Int.reduceNe, Int.reduceNeg, Int.reduceAdd, Int.reduceSub, ↓reduceIte, reduceCtorEq, e1, e3, w1, w2, ih']
end Go.Proofs.YtfflfaedghfmdaaDoor
set_option linter.all false
namespace Go.Proofs.YtfflfaedghfmdaaDoor
open Go.Abs
set_option maxRecDepth 100000
mutual
/-- the lines of a statement in d blocks -/
def stS : Stm → Nat → Bytes
  | .mk op name max a b body els, d =>
    if op = 1 then lineS d [[108, 101, 116, 32], name, [32, 61, 32], textS a, [59]]
    else if op = 2 then lineS d [name, [32, 61, 32], textS a, [59]]
    else if op = 3 then lineS d [[112, 117, 116, 32], textS a, [32, 61, 32], textS b, [59]]
    else if op = 4 then lineS d [[100, 101, 108, 101, 116, 101, 32], textS a, [59]]
    else if op = 5 then lineS d [[105, 102, 32], textS a, [32, 123]] ++ (ssS body (d + 1) ++ ((if decide (0 < (els.length : Int)) = true then lineS d [[125, 32, 101, 108, 115, 101, 32, 123]] ++ ssS els (d + 1) else []) ++ lineS d [[125]]))
    else if op = 6 then lineS d [[102, 111, 114, 32], name, [32, 61, 32], textS a, [32, 116, 111, 32], textS b, [32, 109, 97, 120, 32], Lib.itoa max, [32, 123]] ++ (ssS body (d + 1) ++ lineS d [[125]])
    else if op = 7 then lineS d [[101, 109, 105, 116, 32], textS a, [59]]
    else lineS d [[97, 98, 111, 114, 116, 32], Lib.itoa max, [59]]
def ssS : List Stm → Nat → Bytes
  | [], _ => []
  | x :: l, d => stS x d ++ ssS l d
end
theorem ssS_append (d : Nat) : ∀ l m : List Stm, ssS (l ++ m) d = ssS l d ++ ssS m d
  | [], m => by rw [List.nil_append, ssS, List.nil_append]
  | x :: l, m => by rw [List.cons_append, ssS, ssS, ssS_append d l m, List.append_assoc]
/-- everything in it is valid -/
def AllOk (l : List Vis) : Prop := ∀ y k, Vis.s y k ∈ l → StmOk y k
theorem chkE_used {e : E} (h : chkE e 1 = 0) : absE e = false := by
  obtain ⟨op, n, s, args⟩ := e
  rw [chkE_zero] at h
  have := (nodeS_zero h.1).2.1
  have h0 : op ≠ 0 := by rintro rfl; revert this; decide
  simp [absE, absentS, h0]
theorem part_len {e : E} {u : Bool} (he : e.Ok) (h : u = true → chkE e 1 = 0) : (if u = true then (textS e).length + 2 else 0) ≤ 140 * (if absE e = true then [] else visE e true : List Vis).length := by
  cases u with
  | false => simp
  | true =>
    have := textS_len e 1 true he (h rfl) (by decide)
    rw [chkE_used (h rfl)]
    simpa using this
theorem stm_max {x : Stm} (h : x.Ok) : i64 x.max := by cases h; assumption
theorem name_len {s : Bytes} (h : isName s = true) : s.length ≤ 16 := (isName_len h).2
mutual
theorem stS_len : ∀ (x : Stm) (d : Nat), x.Ok → AllOk (visS x d) → (stS x d).length ≤ 400 * (visS x d).length
  | .mk op name max a b body els, d, hx, hv => by
    have hs := hv _ _ (vis_self _ _)
    obtain ⟨ho, hn, hnn, ha, hna, hb, hnb, hbo, hel, hd⟩ := hs
    simp only [Stm.op, Stm.name, Stm.a, Stm.b, Stm.body, Stm.els] at ho hn hnn ha hna hb hnb hbo hel
    have pa := part_len (Stm.Ok.a hx) ha
    have pb := part_len (Stm.Ok.b hx) hb
    simp only [Stm.a, Stm.b] at pa pb
    have hw : IntKind.i64.wrap ((d : Int) + 1) = ((d + 1 : Nat) : Int) := by rw [wrap_in] <;> omega
    have h1 := ssS_len body (d + 1) (fun y hy => Stm.Ok.bodyOk hx y hy) (fun y k hy => hv y k (vis_body _ (by rw [hw]; exact hy)))
    have h2 := ssS_len els (d + 1) (fun y hy => Stm.Ok.elsOk hx y hy) (fun y k hy => hv y k (vis_els _ (by rw [hw]; exact hy)))
    have hm : (Lib.itoa max).length ≤ 21 := itoa_len max (stm_max hx)
    have hnl : name.length ≤ 16 := by
      cases hu : uN op with
      | true => exact name_len (hn hu)
      | false => rw [hnn hu]; simp
    rw [visS, hw]
    simp only [List.length_cons, List.length_append]
    generalize (if absE a = true then [] else visE a true : List Vis).length = va at *
    generalize (if absE b = true then [] else visE b true : List Vis).length = vb at *
    generalize (visSs body ((d + 1 : Nat) : Int)).length = v1 at *
    generalize (visSs els ((d + 1 : Nat) : Int)).length = v2 at *
    rw [stS]
    have h48 : d ≤ 12 := by omega
    split
    · rename_i h; subst h
      have e : uA 1 = true := rfl
      rw [e, if_pos rfl] at pa
      rw [lineS_len]; simp; omega
    split
    · rename_i h; subst h
      have e : uA 2 = true := rfl
      rw [e, if_pos rfl] at pa
      rw [lineS_len]; simp; omega
    split
    · rename_i h; subst h
      have e : uA 3 = true := rfl
      rw [e, if_pos rfl] at pa
      have e : uB 3 = true := rfl
      rw [e, if_pos rfl] at pb
      rw [lineS_len]; simp; omega
    split
    · rename_i h; subst h
      have e : uA 4 = true := rfl
      rw [e, if_pos rfl] at pa
      rw [lineS_len]; simp; omega
    split
    · rename_i h; subst h
      have e : uA 5 = true := rfl
      rw [e, if_pos rfl] at pa
      simp only [List.length_append, lineS_len]
      split
      · simp only [List.length_append, lineS_len]; simp; omega
      · simp; omega
    split
    · rename_i h; subst h
      have e : uA 6 = true := rfl
      rw [e, if_pos rfl] at pa
      have e : uB 6 = true := rfl
      rw [e, if_pos rfl] at pb
      simp only [List.length_append, lineS_len]
      simp; omega
    split
    · rename_i h; subst h
      have e : uA 7 = true := rfl
      rw [e, if_pos rfl] at pa
      rw [lineS_len]; simp; omega
    · rw [lineS_len]; simp; omega
theorem ssS_len : ∀ (l : List Stm) (d : Nat), (∀ x ∈ l, x.Ok) → AllOk (visSs l d) → (ssS l d).length ≤ 400 * (visSs l d).length
  | [], d, _, _ => by simp [ssS, visSs]
  | x :: l, d, hok, hv => by
    have h1 := stS_len x d (hok x (List.mem_cons_self ..)) (fun y k hy => hv y k (by rw [visSs]; exact List.mem_append_left _ hy))
    have h2 := ssS_len l d (fun y hy => hok y (List.mem_cons_of_mem _ hy)) (fun y k hy => hv y k (by rw [visSs]; exact List.mem_append_right _ hy))
    rw [ssS, visSs, List.length_append, List.length_append]
    omega
end
end Go.Proofs.YtfflfaedghfmdaaDoor
