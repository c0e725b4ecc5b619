/- Quoted strings, of both sides. -/
import Derived.Test.YtfflfaedghfmdaaDoorSeatF
set_option linter.unusedVariables false
set_option linter.unusedSimpArgs false
set_option linter.all false
set_option linter.deprecated false
set_option linter.all false
namespace Go.Proofs.YtfflfaedghfmdaaDoor
open Go.Abs
attribute [local congr] ite_congr
set_option maxRecDepth 100000
theorem rowBytes_str : ∀ s : Bytes, rowBytes (strRows s) = some s
  | [] => rfl
  | b :: s => by
    have h := rowBytes_str s
    unfold strRows at h ⊢
    rw [List.map_cons, rowBytes, h, if_pos ⟨by omega, by have := UInt8.toNat_lt b; omega⟩]
    simp
theorem modify_end {α : Type} (f : α → α) (x : α) : ∀ l : List α, (l ++ [x]).modify l.length f = l ++ [f x]
  | [] => rfl
  | y :: l => by
    have := modify_end f x l
    simp only [List.cons_append, List.length_cons, List.modify_succ_cons, this]
theorem stringB (A : AHeap) (T : TypeId) (u : Bool) (s : Bytes) (hs : s ≠ []) (tl : List AV) (hT : bldOk 64 62 T (tl.length + 2) = true) : acl C 27 [.ptr A.objs.length 0] (wrH A T u s tl) = some (.d (.str s), ⟨(wrH A T u s tl).objs, A.bufs ++ [⟨5, 1, strRows s, s.length + 1⟩]⟩) := by
  rw [acl_ext (c := C) (f := 27) (g := bsFn 64 62 5) rfl]
  have hb : (wrH A T u s tl).bufs = A.bufs ++ [⟨5, 1, strRows s, 0⟩] := by unfold wrH; rw [grB_own A hs]
  have hg : (wrH A T u s tl).bufs[A.bufs.length]? = some ⟨5, 1, strRows s, 0⟩ := by rw [hb]; simp
  have hr : arows (wrH A T u s tl) (.own A.bufs.length s.length) = some (strRows s) := by
    unfold arows
    simp only [hg, strRows_len]
    rw [if_pos ⟨trivial, Nat.zero_le _⟩]
  have ho := wr_obj A T u s tl
  rw [grB_own A hs] at ho
  unfold bsFn
  simp only [ho, hr, rowBytes_str, hT, if_true]
  rw [if_neg (by
    rintro (h | h)
    · exact hs h
    · rw [hg] at h
      exact h rfl)]
  unfold AHeap.kill
  rw [hb, modify_end, strRows_len]
def esc (c : UInt8) : Bytes := if (decide ((c.toNat : Int) = 34) || decide ((c.toNat : Int) = 92)) = true then [92, c] else [c]
def escS (s : Bytes) : Bytes := s.flatMap esc
def quoteS (s : Bytes) : Bytes := 34 :: (escS s ++ [34])
theorem esc_len (c : UInt8) : (esc c).length ≤ 2 := by unfold esc; split <;> simp
theorem escS_len : ∀ s : Bytes, (escS s).length ≤ 2 * s.length
  | [] => Nat.le_refl _
  | c :: s => by
    have h1 := esc_len c
    have h2 := escS_len s
    unfold escS at h2 ⊢
    rw [List.flatMap_cons, List.length_append, List.length_cons]
    omega
theorem escS_snoc (s : Bytes) (c : UInt8) : escS (s ++ [c]) = escS s ++ esc c := by
  unfold escS
  rw [List.flatMap_append, List.flatMap_cons, List.flatMap_nil, List.append_nil]
theorem plainQ (s : Bytes) (A : AHeap) (hl : s.length ≤ 1099511627776) : acl C 78 [.d (.str s)] A = some (.d (.bool (s.all inner)), A) := by
  rw [k_call (c := C) (f := 78) rfl Tryd.func78 rfl (ok 78 (by kernel_rfl)) rfl Tryd.ntmps78 Tryd.results78 (by simp)]
  simp (maxSteps := 1000000) +contextual only [go_sem, acondK_bool, acB_merge, Nat.reduceLT, Nat.reduceLeDiff, Nat.reduceEqDiff, Nat.reduceAdd, Nat.reduceSub, Nat.reduceMul, Nat.reduceBEq, Nat.reduceBNe, Nat.reduceBneDiff, Nat.reduceBeqDiff, Int.reduceToNat, Int.reduceLE, Int.reduceLT, Int.reduceEq, Int.reduceNe, Int.reduceNeg, Int.reduceAdd, Int.reduceSub, ↓reduceIte, reduceCtorEq]
  generalize hN : s.length = N at *
  refine loop_list (fun n => [(5, .v (.d (.int .i64 (N : Nat)))), (0, .v (.d (.str s))), (6, .v (.d (.int .i64 (n : Int))))]) (fun pre suf => some (.d (.bool (suf.all inner)), A)) s rfl rfl ?_
  intro pre suf h ih
  subst h
  have hb : pre.length < 9223372036854775807 := by simp at hN; omega
  cases suf with
  | nil =>
    have e1 : decide ((pre.length : Int) < (N : Int)) = false := by simp at hN; simp; omega
    simp (maxSteps := 1000000) +contextual only [go_sem, acondK_bool, acB_merge, Nat.reduceLT, Nat.reduceLeDiff, Nat.reduceEqDiff, Nat.reduceAdd, Nat.reduceSub, Nat.reduceMul, Nat.reduceBEq, Nat.reduceBNe, Nat.reduceBneDiff, Nat.reduceBeqDiff, Int.reduceToNat, Int.reduceLE, Int.reduceLT, Int.reduceEq, Int.reduceNe, Int.reduceNeg, Int.reduceAdd, Int.reduceSub, ↓reduceIte, reduceCtorEq, e1]
  | cons x suf =>
    have e1 : decide ((pre.length : Int) < (N : Int)) = true := by simp at hN; simp; omega
    simp (maxSteps := 1000000) +contextual only [go_sem, acondK_bool, acB_merge, Nat.reduceLT, Nat.reduceLeDiff, Nat.reduceEqDiff, Nat.reduceAdd, Nat.reduceSub, Nat.reduceMul, Nat.reduceBEq, Nat.reduceBNe, Nat.reduceBneDiff, Nat.reduceBeqDiff, Int.reduceToNat, Int.reduceLE, Int.reduceLT, Int.reduceEq, Int.reduceNe, Int.reduceNeg, Int.reduceAdd, Int.reduceSub, ↓reduceIte, reduceCtorEq, e1, ih x suf rfl, wrap_nat hb]
    refine leafB ?_
    cases hx : inner x <;> simp [hx] <;> simp [inner] at hx <;> omega
theorem printableQ (s : Bytes) (A : AHeap) (hl : s.length ≤ 1099511627776) : acl C 81 [.d (.str s)] A = some (.d (.bool (s.all inner)), A) := by
  rw [k_call (c := C) (f := 81) rfl Tryd.func81 rfl (ok 81 (by kernel_rfl)) rfl Tryd.ntmps81 Tryd.results81 (by simp)]
  simp (maxSteps := 1000000) +contextual only [go_sem, acondK_bool, acB_merge, Nat.reduceLT, Nat.reduceLeDiff, Nat.reduceEqDiff, Nat.reduceAdd, Nat.reduceSub, Nat.reduceMul, Nat.reduceBEq, Nat.reduceBNe, Nat.reduceBneDiff, Nat.reduceBeqDiff, Int.reduceToNat, Int.reduceLE, Int.reduceLT, Int.reduceEq, Int.reduceNe, Int.reduceNeg, Int.reduceAdd, Int.reduceSub, ↓reduceIte, reduceCtorEq]
  refine loop_list (fun n => [(0, .v (.d (.str s))), (3, .v (.d (.int .i64 (n : Int))))]) (fun pre suf => some (.d (.bool (suf.all inner)), A)) s rfl rfl ?_
  intro pre suf h ih
  subst h
  have hb : pre.length < 9223372036854775807 := by simp at hl; omega
  cases suf with
  | nil => simp (maxSteps := 1000000) +contextual only [go_sem, acondK_bool, acB_merge, Nat.reduceLT, Nat.reduceLeDiff, Nat.reduceEqDiff, Nat.reduceAdd, Nat.reduceSub, Nat.reduceMul, Nat.reduceBEq, Nat.reduceBNe, Nat.reduceBneDiff, Nat.reduceBeqDiff, Int.reduceToNat, Int.reduceLE, Int.reduceLT, Int.reduceEq, Int.reduceNe, Int.reduceNeg, Int.reduceAdd, Int.reduceSub, ↓reduceIte, reduceCtorEq]
  | cons x suf =>
    simp (maxSteps := 1000000) +contextual only [go_sem, acondK_bool, acB_merge, Nat.reduceLT, Nat.reduceLeDiff, Nat.reduceEqDiff, Nat.reduceAdd, Nat.reduceSub, Nat.reduceMul, Nat.reduceBEq, Nat.reduceBNe, Nat.reduceBneDiff, Nat.reduceBeqDiff, Int.reduceToNat, Int.reduceLE, Int.reduceLT, Int.reduceEq, Int.reduceNe, Int.reduceNeg, Int.reduceAdd, Int.reduceSub, ↓reduceIte, reduceCtorEq, ih x suf rfl, wrap_nat hb]
    refine leafB ?_
    cases hx : inner x <;> simp [hx] <;> simp [inner] at hx <;> omega
end Go.Proofs.YtfflfaedghfmdaaDoor
set_option linter.all false
namespace Go.Proofs.YtfflfaedghfmdaaDoor
open Go.Abs
attribute [local congr] ite_congr
set_option maxRecDepth 100000
theorem quoteR (s : Bytes) (hs : plainS s = true) (A : AHeap) : acl C 58 [.d (.str s)] A = some (.tuple [.d (.str (quoteS s)), .d (.int .i64 0)], A) := by
  have hs' := hs
  unfold plainS at hs'
  rw [Bool.and_eq_true] at hs'
  obtain ⟨h1, h2⟩ := hs'
  have hl : s.length ≤ 64 := by simp at h2; omega
  have e0 : decide ((64 : Int) < (s.length : Int)) = false := by simp; omega
  have p1 := printableQ s A (by omega)
  rw [h1] at p1
  rw [k_call (c := C) (f := 58) rfl Tryd.func58 rfl (ok 58 (by kernel_rfl)) rfl Tryd.ntmps58 Tryd.results58 (by simp)]
  simp (maxSteps := 1000000) only [go_sem, acondK_bool, acB_merge, Nat.reduceLT, Nat.reduceLeDiff, Nat.reduceEqDiff, Nat.reduceAdd, Nat.reduceSub, Nat.reduceMul, Nat.reduceBEq, Nat.reduceBNe, Nat.reduceBneDiff, Nat.reduceBeqDiff, Int.reduceToNat, Int.reduceLE, Int.reduceLT, Int.reduceEq, Int.reduceNe, Int.reduceNeg, Int.reduceAdd, Int.reduceSub, ↓reduceIte, reduceCtorEq, e0, p1]
  refine loop_any (fun pre => [(4, .v (.d (.str (34 :: escS pre)))), (5, .v (.d (.int .i64 (pre.length : Nat)))), (0, .v (.d (.str s)))]) (fun _ => A) (fun _ _ => some (.tuple [.d (.str (quoteS s)), .d (.int .i64 0)], A)) s rfl rfl rfl ?_
  intro pre suf h ih
  have hb : pre.length ≤ s.length := by rw [h]; simp
  have hel := escS_len pre
  cases suf with
  | nil =>
    have e1 : decide ((pre.length : Int) < (s.length : Int)) = false := by rw [h]; simp
    have hp : pre = s := by rw [h]; simp
    subst hp
    have c1 := sadd (a := 34 :: escS pre) (b := [34]) (by simp; omega)
    change ∀ t, abin _ _ _ _ _ = some (.d (.str (quoteS pre))) at c1
    generalize 34 :: escS pre = q at *
    simp (maxSteps := 1000000) only [go_sem, acondK_bool, acB_merge, Nat.reduceLT, Nat.reduceLeDiff, Nat.reduceEqDiff, Nat.reduceAdd, Nat.reduceSub, Nat.reduceMul, Nat.reduceBEq, Nat.reduceBNe, Nat.reduceBneDiff, Nat.reduceBeqDiff, Int.reduceToNat, Int.reduceLE, Int.reduceLT, Int.reduceEq, Int.reduceNe, Int.reduceNeg, Int.reduceAdd, Int.reduceSub, ↓reduceIte, reduceCtorEq, e1, c1]
  | cons x suf =>
    have e1 : decide ((pre.length : Int) < (s.length : Int)) = true := by rw [h]; simp; omega
    have e2 : s[pre.length]? = some x := by rw [h]; simp
    have i2 : aidxG C 9 (some (.d (.str s))) (some (.d (.int .i64 (pre.length : Int)))) = some (.d (.int .u8 x.toNat)) := aidxG_str (by rfl) e2
    have m2 : asliM C 9 (some (.d (.str s))) (some (.d (.int .i64 (pre.length : Int)))) (some (.d (.int .i64 ((pre.length + 1 : Nat) : Int)))) = some (.d (.str [x])) := by
      rw [asliM_str (by rfl) (by omega) (by rw [h]; simp)]
      rw [h, List.take_length_add_append, List.drop_left]
      rfl
    have ih' := ih x suf rfl
    rw [escS_snoc] at ih'
    unfold esc at ih'
    cases hx : (decide ((x.toNat : Int) = 34) || decide ((x.toNat : Int) = 92)) with
    | true =>
      rw [hx, if_pos rfl] at ih'
      have c1 := sadd (a := 34 :: escS pre) (b := [92]) (by simp; omega)
      have c2 := sadd (a := (34 :: escS pre) ++ [92]) (b := [x]) (by simp; omega)
      rw [List.append_assoc] at c2
      change ∀ t, abin _ _ _ _ _ = some (.d (.str (34 :: (escS pre ++ [92, x])))) at c2
      have w1 : IntKind.i64.wrap ((pre.length : Int) + 1) = ((pre.length + 1 : Nat) : Int) := wrap_nat (by omega)
      rw [List.length_append, List.length_cons, List.length_nil] at ih'
      generalize 34 :: (escS pre ++ [92, x]) = q2 at *
      generalize (34 :: escS pre) ++ [92] = q1 at *
      generalize 34 :: escS pre = q at *
      simp (maxSteps := 1000000) only [go_sem, acondK_bool, acB_merge, Nat.reduceLT, Nat.reduceLeDiff, Nat.reduceEqDiff, Nat.reduceAdd, Nat.reduceSub, Nat.reduceMul, Nat.reduceBEq, Nat.reduceBNe, Nat.reduceBneDiff, Nat.reduceBeqDiff, Int.reduceToNat, Int.reduceLE, Int.reduceLT, Int.reduceEq, Int.reduceNe, Int.reduceNeg, Int.reduceAdd, Int.reduceSub, ↓reduceIte, reduceCtorEq, e1, i2, m2, hx, ih', w1, c1, c2]
    | false =>
      rw [hx, if_neg (by simp)] at ih'
      have c1 := sadd (a := 34 :: escS pre) (b := [x]) (by simp; omega)
      change ∀ t, abin _ _ _ _ _ = some (.d (.str (34 :: (escS pre ++ [x])))) at c1
      have w1 : IntKind.i64.wrap ((pre.length : Int) + 1) = ((pre.length + 1 : Nat) : Int) := wrap_nat (by omega)
      rw [List.length_append, List.length_cons, List.length_nil] at ih'
      generalize 34 :: (escS pre ++ [x]) = q1 at *
      generalize 34 :: escS pre = q at *
      simp (maxSteps := 1000000) only [go_sem, acondK_bool, acB_merge, Nat.reduceLT, Nat.reduceLeDiff, Nat.reduceEqDiff, Nat.reduceAdd, Nat.reduceSub, Nat.reduceMul, Nat.reduceBEq, Nat.reduceBNe, Nat.reduceBneDiff, Nat.reduceBeqDiff, Int.reduceToNat, Int.reduceLE, Int.reduceLT, Int.reduceEq, Int.reduceNe, Int.reduceNeg, Int.reduceAdd, Int.reduceSub, ↓reduceIte, reduceCtorEq, e1, i2, m2, hx, ih', w1, c1]
theorem quoteP (s : Bytes) (hs : plainS s = true) (A : AHeap) : acl C 51 [.d (.str s)] A = some (.tuple [.d (.str (quoteS s)), .d (.int .i64 0)], A) := by
  have hs' := hs
  unfold plainS at hs'
  rw [Bool.and_eq_true] at hs'
  obtain ⟨h1, h2⟩ := hs'
  have hl : s.length ≤ 64 := by simp at h2; omega
  have e0 : decide ((64 : Int) < (s.length : Int)) = false := by simp; omega
  have p1 := plainQ s A (by omega)
  rw [h1] at p1
  have hT : bldOk 64 62 62 (([] : List AV).length + 2) = true := by rfl
  have b0 := writeByte A 62 false [] [] hT 34 (by simp)
  change acl C _ [_, .d (.int .u8 34)] _ = _ at b0
  have hw : wrH A 62 false [] [] = ⟨A.objs ++ [.tcells 62 [.nilP, .nilS]], A.bufs⟩ := by rfl
  rw [hw, List.nil_append] at b0
  rw [k_call (c := C) (f := 51) rfl Tryd.func51 rfl (ok 51 (by kernel_rfl)) rfl Tryd.ntmps51 Tryd.results51 (by simp)]
  simp (maxSteps := 1000000) only [go_sem, acondK_bool, acB_merge, Nat.reduceLT, Nat.reduceLeDiff, Nat.reduceEqDiff, Nat.reduceAdd, Nat.reduceSub, Nat.reduceMul, Nat.reduceBEq, Nat.reduceBNe, Nat.reduceBneDiff, Nat.reduceBeqDiff, Int.reduceToNat, Int.reduceLE, Int.reduceLT, Int.reduceEq, Int.reduceNe, Int.reduceNeg, Int.reduceAdd, Int.reduceSub, ↓reduceIte, reduceCtorEq, e0, p1, b0]
  refine loop_any (fun pre => [(15, .v (.d (.int .i64 (pre.length : Nat)))), (4, .v (.ptr A.objs.length 0)), (0, .v (.d (.str s))), (14, .v (.d (.int .i64 (s.length : Nat))))]) (fun pre => wrH A 62 true (34 :: escS pre) []) (fun _ _ => some (.tuple [.d (.str (quoteS s)), .d (.int .i64 0)], A)) s rfl rfl rfl ?_
  intro pre suf h ih
  have hb : pre.length ≤ s.length := by rw [h]; simp
  have hel := escS_len pre
  cases suf with
  | nil =>
    have e1 : decide ((pre.length : Int) < (s.length : Int)) = false := by rw [h]; simp
    have hp : pre = s := by rw [h]; simp
    subst hp
    have b1 := writeByte A 62 true (34 :: escS pre) [] hT 34 (by simp; omega)
    change acl C _ [_, .d (.int .u8 34)] _ = _ at b1
    have b2 := stringB A 62 true (34 :: escS pre ++ [34]) (by simp) [] hT
    have hf : ∀ q, afinR C 51 A ⟨(wrH A 62 true (34 :: escS pre ++ [34]) []).objs, A.bufs ++ q⟩ (some (.tuple [.d (.str (quoteS pre)), .d (.int .i64 0)])) = some (.tuple [.d (.str (quoteS pre)), .d (.int .i64 0)], A) := fun q =>
      afinR_back (A0 := A) (objs := _) (bufs := q) (v := .tuple [.d (.str (quoteS pre)), .d (.int .i64 0)]) rfl rfl
    have hq : quoteS pre = 34 :: escS pre ++ [34] := rfl
    rw [← hq] at b1 b2 hf
    generalize quoteS pre = q2 at *
    generalize 34 :: escS pre = q at *
    simp (maxSteps := 1000000) only [go_sem, acondK_bool, acB_merge, Nat.reduceLT, Nat.reduceLeDiff, Nat.reduceEqDiff, Nat.reduceAdd, Nat.reduceSub, Nat.reduceMul, Nat.reduceBEq, Nat.reduceBNe, Nat.reduceBneDiff, Nat.reduceBeqDiff, Int.reduceToNat, Int.reduceLE, Int.reduceLT, Int.reduceEq, Int.reduceNe, Int.reduceNeg, Int.reduceAdd, Int.reduceSub, ↓reduceIte, reduceCtorEq, e1, b1, b2, hf]
  | cons x suf =>
    have e1 : decide ((pre.length : Int) < (s.length : Int)) = true := by rw [h]; simp; omega
    have e2 : s[pre.length]? = some x := by rw [h]; simp
    have i2 : aidxG C 9 (some (.d (.str s))) (some (.d (.int .i64 (pre.length : Int)))) = some (.d (.int .u8 x.toNat)) := aidxG_str (by rfl) e2
    have ih' := ih x suf rfl
    rw [escS_snoc] at ih'
    unfold esc at ih'
    cases hx : (decide ((x.toNat : Int) = 34) || decide ((x.toNat : Int) = 92)) with
    | true =>
      rw [hx, if_pos rfl] at ih'
      have c1 := writeByte A 62 true (34 :: escS pre) [] hT 92 (by simp; omega)
      change acl C _ [_, .d (.int .u8 92)] _ = _ at c1
      have c2 := writeByte A 62 true ((34 :: escS pre) ++ [92]) [] hT x (by simp; omega)
      have hq : (34 :: escS pre) ++ [92] ++ [x] = 34 :: (escS pre ++ [92, x]) := by simp
      rw [hq] at c2
      have w1 : IntKind.i64.wrap ((pre.length : Int) + 1) = ((pre.length + 1 : Nat) : Int) := wrap_nat (by omega)
      rw [List.length_append, List.length_cons, List.length_nil] at ih'
      generalize 34 :: (escS pre ++ [92, x]) = q2 at *
      generalize (34 :: escS pre) ++ [92] = q1 at *
      generalize 34 :: escS pre = q at *
      simp (maxSteps := 1000000) only [go_sem, acondK_bool, acB_merge, Nat.reduceLT, Nat.reduceLeDiff, Nat.reduceEqDiff, Nat.reduceAdd, Nat.reduceSub, Nat.reduceMul, Nat.reduceBEq, Nat.reduceBNe, Nat.reduceBneDiff, Nat.reduceBeqDiff, Int.reduceToNat, Int.reduceLE, Int.reduceLT, Int.reduceEq, Int.reduceNe, Int.reduceNeg, Int.reduceAdd, Int.reduceSub, ↓reduceIte, reduceCtorEq, e1, i2, hx, ih', w1, c1, c2]
    | false =>
      rw [hx, if_neg (by simp)] at ih'
      have c1 := writeByte A 62 true (34 :: escS pre) [] hT x (by simp; omega)
      have hq : (34 :: escS pre) ++ [x] = 34 :: (escS pre ++ [x]) := by simp
      rw [hq] at c1
      have w1 : IntKind.i64.wrap ((pre.length : Int) + 1) = ((pre.length + 1 : Nat) : Int) := wrap_nat (by omega)
      rw [List.length_append, List.length_cons, List.length_nil] at ih'
      generalize 34 :: (escS pre ++ [x]) = q1 at *
      generalize 34 :: escS pre = q at *
      simp (maxSteps := 1000000) only [go_sem, acondK_bool, acB_merge, Nat.reduceLT, Nat.reduceLeDiff, Nat.reduceEqDiff, Nat.reduceAdd, Nat.reduceSub, Nat.reduceMul, Nat.reduceBEq, Nat.reduceBNe, Nat.reduceBneDiff, Nat.reduceBeqDiff, Int.reduceToNat, Int.reduceLE, Int.reduceLT, Int.reduceEq, Int.reduceNe, Int.reduceNeg, Int.reduceAdd, Int.reduceSub, ↓reduceIte, reduceCtorEq, e1, i2, hx, ih', w1, c1]
end Go.Proofs.YtfflfaedghfmdaaDoor
