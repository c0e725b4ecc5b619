/- The flow of stored values in plain words: it only takes away, and comes to rest; what the reference collects is the rest of the names. -/
import Derived.Test.YtdcmimpjmngdlaaGreatSeatQ
set_option linter.unusedVariables false
set_option linter.unusedSimpArgs false
set_option linter.all false
set_option linter.deprecated false
set_option linter.all false
namespace Go.Proofs.YtdcmimpjmngdlaaGreat
open Go.Abs
set_option maxRecDepth 10000
theorem ssdel_sub (k : Bytes) : ∀ c : List Bytes, (SS.del c k).Sublist c
  | [] => List.Sublist.refl _
  | j :: l => by
    unfold SS.del
    split
    · exact List.sublist_cons_self _ _
    · exact (ssdel_sub k l).cons₂ _
theorem delS_sub (c : List Bytes) (u : Bool) (op : Int) (name : Bytes) (a b : E) : (delS c u op name a b).Sublist c := by
  unfold delS
  split
  · exact ssdel_sub _ _
  · exact List.Sublist.refl _
mutual
theorem flS_sub : ∀ (x : Stm) (c : List Bytes) (u : Bool), (flS x c u).Sublist c
  | .mk op name max a b body els, c, u => (flL_sub els _ _).trans ((flL_sub body _ _).trans (delS_sub c u op name a b))
theorem flL_sub : ∀ (l : List Stm) (c : List Bytes) (u : Bool), (flL l c u).Sublist c
  | [], c, u => List.Sublist.refl _
  | x :: l, c, u => (flL_sub l _ u).trans (flS_sub x c u)
end
/-- again and again -/
def itG (F : List Bytes → List Bytes) : Nat → List Bytes → List Bytes
  | 0, c => c
  | n + 1, c => itG F n (F c)
theorem itG_succ (F : List Bytes → List Bytes) : ∀ (n : Nat) (c : List Bytes), itG F (n + 1) c = F (itG F n c)
  | 0, c => rfl
  | n + 1, c => by
    show itG F (n + 1) (F c) = _
    rw [itG_succ F n (F c)]
    rfl
theorem itG_add (F : List Bytes → List Bytes) : ∀ (m n : Nat) (c : List Bytes), itG F (m + n) c = itG F n (itG F m c)
  | 0, n, c => by rw [Nat.zero_add]; rfl
  | m + 1, n, c => by
    rw [Nat.add_right_comm]
    exact itG_add F m n (F c)
theorem itG_fix {F : List Bytes → List Bytes} {c : List Bytes} (h : F c = c) : ∀ n, itG F n c = c
  | 0 => rfl
  | n + 1 => by show itG F n (F c) = c; rw [h, itG_fix h n]
theorem itG_same {F : List Bytes → List Bytes} {c : List Bytes} {m n : Nat} (hm : F (itG F m c) = itG F m c) (hn : F (itG F n c) = itG F n c) : itG F m c = itG F n c := by
  have h1 := itG_add F m n c
  have h2 := itG_add F n m c
  rw [itG_fix hm] at h1
  rw [itG_fix hn, Nat.add_comm] at h2
  rw [← h1, h2]
theorem rest_of (l : List Stm) : ∀ (n : Nat) (c : List Bytes), c.length ≤ n → flL l (itG (fun c => flL l c false) n c) false = itG (fun c => flL l c false) n c
  | 0, c, h => by
    have : c = [] := List.eq_nil_of_length_eq_zero (by omega)
    subst this
    have := flL_sub l [] false
    exact List.eq_nil_of_sublist_nil this
  | n + 1, c, h => by
    show flL l (itG _ n (flL l c false)) false = itG _ n (flL l c false)
    have hs := flL_sub l c false
    by_cases he : (flL l c false).length = c.length
    · have hf : flL l c false = c := hs.eq_of_length he
      rw [hf, itG_fix (F := fun c => flL l c false) hf, hf]
    · have := hs.length_le
      exact rest_of l n _ (by omega)
def c0S (p : Pr) : List Bytes := metL [] (namesS p)
/-- what is not tainted in the end -/
def clnS (p : Pr) : List Bytes := itG (fun c => flL p.body c false) (c0S p).length (c0S p)
theorem cln_rest (p : Pr) : flL p.body (clnS p) false = clnS p := rest_of p.body _ _ (Nat.le_refl _)
theorem cln_of {p : Pr} {j : Nat} (h : flL p.body (itG (fun c => flL p.body c false) j (c0S p)) false = itG (fun c => flL p.body c false) j (c0S p)) : itG (fun c => flL p.body c false) j (c0S p) = clnS p :=
  itG_same h (cln_rest p)
end Go.Proofs.YtdcmimpjmngdlaaGreat
set_option linter.all false
namespace Go.Proofs.YtdcmimpjmngdlaaGreat
open Go.Abs
attribute [local congr] ite_congr
set_option maxRecDepth 10000
theorem an_ptr {f : FuncId} (ho : C.own f = false) {A : AHeap} {a b d : Dat} {c : List Bytes} {i : Nat} : afinR C f A (anH A.objs a b d A.bufs c) (some (.ptr i 0)) = some (.ptr i 0, anH A.objs a b d A.bufs c) := by
  simp only [afinR, Option.map_some, afinish, ho, Bool.false_eq_true, if_false, acleanR, acleanV, aclean]
  unfold acut
  simp [anH, AV.noptr, AV.noptr2, AV.noptr1]
theorem an_back {f : FuncId} (ho : C.own f = false) {A : AHeap} {a b d : Dat} {c : List Bytes} {v : AV} (h : v.still3 = true) : afinR C f A (anH A.objs a b d A.bufs c) (some v) = some (v.clean3, A) := afinR_obj ho h
abbrev prH (p : Pr) (A : AHeap) (c : List Bytes) : AHeap := anH A.objs (.str p.name) (.slice (p.params.map Pm.row)) (.slice (p.body.map Stm.row)) A.bufs c
theorem len_mb (c : List Bytes) : (mb c).length = c.length := by simp [mb]
theorem analyze (p : Pr) (hp : p.Ok) (h40 : p.params.length ≤ 40) (A : AHeap) : acl C 19 [Pr.av p] A = some (.ptr (A.objs.length + 1) 0, prH p A (clnS p)) := by
  have n1 := names p hp (by omega)
  have hnl := namesS_len p h40
  have fl := flowP p hp
  rw [k_call (c := C) (f := 19) rfl Tryz.func19 rfl (ok 19 (by kernel_rfl)) rfl Tryz.ntmps19 Tryz.results19 (by simp)]
  simp (maxSteps := 1000000) only [go_sem, acondK_bool, acB_merge, Nat.reduceLT, Nat.reduceLeDiff, Nat.reduceEqDiff, Nat.reduceAdd, Nat.reduceSub, Nat.reduceMul, Nat.reduceBEq, Nat.reduceBNe, Nat.reduceBneDiff, Nat.reduceBeqDiff, Int.reduceToNat, Int.reduceLE, Int.reduceLT, Int.reduceEq, Int.reduceNe, Int.reduceNeg, Int.reduceAdd, Int.reduceSub, ↓reduceIte, reduceCtorEq, n1]
  refine loop_any (fun pre => [(14, .v (.d (.int .i64 (pre.length : Nat)))), (3, .v (.ptr (A.objs.length + 1) 0)), (12, .v (.d (.slice ((namesS p).map sRow)))), (1, .box [.d (.str p.name), .d (.slice (p.params.map Pm.row)), .d (.slice (p.body.map Stm.row))]), (13, .v (.d (.int .i64 ((namesS p).length : Nat))))])
    (fun pre => prH p A (metL [] pre)) (fun _ _ => some (.ptr (A.objs.length + 1) 0, prH p A (clnS p))) (namesS p) rfl rfl rfl ?_
  intro pre suf hl ih
  have hb : pre.length < 9223372036854775807 := by rw [hl] at hnl; simp at hnl; omega
  cases suf with
  | cons x suf =>
    have e2 := ih x suf rfl
    rw [List.length_append, List.length_cons, List.length_nil, metL_snoc] at e2
    have e3 : ((namesS p).map sRow)[pre.length]? = some [.str x] := by rw [hl]; exact map_mid
    have e4 : decide ((pre.length : Int) < ((namesS p).length : Int)) = true := by rw [hl]; simp; omega
    simp (maxSteps := 1000000) only [go_sem, acondK_bool, acB_merge, Nat.reduceLT, Nat.reduceLeDiff, Nat.reduceEqDiff, Nat.reduceAdd, Nat.reduceSub, Nat.reduceMul, Nat.reduceBEq, Nat.reduceBNe, Nat.reduceBneDiff, Nat.reduceBeqDiff, Int.reduceToNat, Int.reduceLE, Int.reduceLT, Int.reduceEq, Int.reduceNe, Int.reduceNeg, Int.reduceAdd, Int.reduceSub, ↓reduceIte, reduceCtorEq, e3, e4, an_obj, an_map, aupd_mb, an_set, e2, wrap_nat hb]
  | nil =>
  rw [List.append_nil] at hl
  have e4 : decide ((pre.length : Int) < ((namesS p).length : Int)) = false := by rw [hl]; simp
  simp (maxSteps := 1000000) only [go_sem, acondK_bool, acB_merge, Nat.reduceLT, Nat.reduceLeDiff, Nat.reduceEqDiff, Nat.reduceAdd, Nat.reduceSub, Nat.reduceMul, Nat.reduceBEq, Nat.reduceBNe, Nat.reduceBneDiff, Nat.reduceBeqDiff, Int.reduceToNat, Int.reduceLE, Int.reduceLT, Int.reduceEq, Int.reduceNe, Int.reduceNeg, Int.reduceAdd, Int.reduceSub, ↓reduceIte, reduceCtorEq, e4]
  refine loop_meas (fun s : List Bytes × Int => [(6, .v (.d (.int .i64 s.2))), (1, .box [.d (.str p.name), .d (.slice (p.params.map Pm.row)), .d (.slice (p.body.map Stm.row))]), (3, .v (.ptr (A.objs.length + 1) 0))])
    (fun s => prH p A s.1) (fun s => 2 * s.1.length + (if s.2 = (s.1.length : Nat) then 0 else 1)) (fun s => (∃ j, s.1 = itG (fun c => flL p.body c false) j (c0S p)) ∧ (s.2 = (s.1.length : Nat) → flL p.body s.1 false = s.1)) (metL [] pre, -1) rfl rfl
    ⟨⟨0, by rw [← hl]; rfl⟩, fun h => by simp at h⟩ ?_
  intro s hI ih2
  obtain ⟨c, bf⟩ := s
  obtain ⟨⟨j, hj⟩, hfix⟩ := hI
  change c = _ at hj
  change bf = (c.length : Nat) → flL p.body c false = c at hfix
  have f1 := fl A.objs (.str p.name) (.slice (p.params.map Pm.row)) (.slice (p.body.map Stm.row)) A.bufs c false
  have fin := fun i => an_ptr (f := 19) (A := A) (a := .str p.name) (b := .slice (p.params.map Pm.row)) (d := .slice (p.body.map Stm.row)) (c := clnS p) (i := i) rfl
  cases h : decide (bf = (c.length : Int)) with
  | true =>
    have hf := hfix (by simpa using h)
    have hc : c = clnS p := by
      rw [hj] at hf ⊢
      exact cln_of hf
    rw [hc] at h ⊢
    simp (maxSteps := 1000000) only [go_sem, acondK_bool, acB_merge, Nat.reduceLT, Nat.reduceLeDiff, Nat.reduceEqDiff, Nat.reduceAdd, Nat.reduceSub, Nat.reduceMul, Nat.reduceBEq, Nat.reduceBNe, Nat.reduceBneDiff, Nat.reduceBeqDiff, Int.reduceToNat, Int.reduceLE, Int.reduceLT, Int.reduceEq, Int.reduceNe, Int.reduceNeg, Int.reduceAdd, Int.reduceSub, ↓reduceIte, reduceCtorEq, an_obj, an_map, len_mb, h, fin]
  | false =>
    have hs := flL_sub p.body c false
    have hle := hs.length_le
    have e5 := ih2 (flL p.body c false, (c.length : Nat)) (by
      show 2 * (flL p.body c false).length + (if ((c.length : Nat) : Int) = ((flL p.body c false).length : Nat) then 0 else 1) < 2 * c.length + (if bf = ((c.length : Nat) : Int) then 0 else 1)
      rw [if_neg (show ¬ bf = ((c.length : Nat) : Int) by simpa using h)]
      split <;> omega) ⟨⟨j + 1, by rw [itG_succ, ← hj]⟩, fun h2 => by
        have h3 : (flL p.body c false).length = c.length := by
          have : ((c.length : Nat) : Int) = ((flL p.body c false).length : Nat) := h2
          omega
        have h4 : flL p.body c false = c := hs.eq_of_length h3
        show flL p.body (flL p.body c false) false = flL p.body c false
        rw [h4, h4]⟩
    simp (maxSteps := 1000000) only [go_sem, acondK_bool, acB_merge, Nat.reduceLT, Nat.reduceLeDiff, Nat.reduceEqDiff, Nat.reduceAdd, Nat.reduceSub, Nat.reduceMul, Nat.reduceBEq, Nat.reduceBNe, Nat.reduceBneDiff, Nat.reduceBeqDiff, Int.reduceToNat, Int.reduceLE, Int.reduceLT, Int.reduceEq, Int.reduceNe, Int.reduceNeg, Int.reduceAdd, Int.reduceSub, ↓reduceIte, reduceCtorEq, an_obj, an_map, len_mb, h, f1, e5]
theorem chk_small {p : Pr} (h : chkS p = 0) : p.params.length ≤ 40 ∧ Vld p := by
  have hv : valS p = 0 := by
    unfold chkS at h
    by_cases h1 : decide (preErr p = 0) = true
    · have h2 : preErr p = 0 := by simpa using h1
      unfold preErr at h2
      by_cases h3 : valS p = 0
      · exact h3
      · rw [if_neg (by simpa using h3)] at h2; exact h2
    · rw [if_neg h1] at h
      rw [h] at h1
      exact absurd rfl h1
  have V := (valS_zero p).1 hv
  have := ((prmS_zero3 _).1 V.prm).1.2
  exact ⟨by omega, V⟩
/-- the tainted names, in the order of the names -/
def tnsS (p : Pr) : List Bytes := if decide (chkS p = 0) = true then (namesS p).filter (fun s => !SS.has (clnS p) s) else []
theorem taintedD (p : Pr) (hp : p.Ok) (h40 : p.params.length ≤ 40) (A : AHeap) : acl C 17 [Pr.av p] A = some (.d (.slice ((tnsS p).map sRow)), A) := by
  have k1 := checkOf p hp h40 A
  rw [k_call (c := C) (f := 17) rfl Tryz.func17 rfl (ok 17 (by kernel_rfl)) rfl Tryz.ntmps17 Tryz.results17 (by simp)]
  unfold tnsS
  cases hc : decide (chkS p = 0) with
  | false => simp (maxSteps := 1000000) only [go_sem, acondK_bool, acB_merge, Nat.reduceLT, Nat.reduceLeDiff, Nat.reduceEqDiff, Nat.reduceAdd, Nat.reduceSub, Nat.reduceMul, Nat.reduceBEq, Nat.reduceBNe, Nat.reduceBneDiff, Nat.reduceBeqDiff, Int.reduceToNat, Int.reduceLE, Int.reduceLT, Int.reduceEq, Int.reduceNe, Int.reduceNeg, Int.reduceAdd, Int.reduceSub, ↓reduceIte, reduceCtorEq, k1, hc]
  | true =>
  have a1 := analyze p hp h40 A
  have n1 := names p hp (by omega) (prH p A (clnS p))
  have hnl := namesS_len p h40
  simp (maxSteps := 1000000) only [go_sem, acondK_bool, acB_merge, Nat.reduceLT, Nat.reduceLeDiff, Nat.reduceEqDiff, Nat.reduceAdd, Nat.reduceSub, Nat.reduceMul, Nat.reduceBEq, Nat.reduceBNe, Nat.reduceBneDiff, Nat.reduceBeqDiff, Int.reduceToNat, Int.reduceLE, Int.reduceLT, Int.reduceEq, Int.reduceNe, Int.reduceNeg, Int.reduceAdd, Int.reduceSub, ↓reduceIte, reduceCtorEq, k1, hc, a1, n1]
  generalize namesS p = N at *
  generalize clnS p = c at *
  refine loop_any (fun pre => [(4, .v (grS (prH p A c) (pre.filter (fun s => !SS.has c s))).1), (15, .v (.d (.int .i64 (pre.length : Nat)))), (3, .v (.ptr (A.objs.length + 1) 0)), (13, .v (.d (.slice (N.map sRow)))), (14, .v (.d (.int .i64 (N.length : Nat))))])
    (fun pre => (grS (prH p A c) (pre.filter (fun s => !SS.has c s))).2) (fun _ _ => some (.d (.slice ((N.filter (fun s => !SS.has c s)).map sRow)), A)) N rfl rfl rfl ?_
  intro pre suf hl ih
  have hb : pre.length < 9223372036854775807 := by rw [hl] at hnl; simp at hnl; omega
  cases suf with
  | nil =>
    rw [List.append_nil] at hl
    subst hl
    have e4 : decide ((N.length : Int) < (N.length : Int)) = false := by simp
    have hf : afinR C 17 A (grS (prH p A c) (N.filter (fun s => !SS.has c s))).2 (some (grS (prH p A c) (N.filter (fun s => !SS.has c s))).1) = some (.d (.slice ((N.filter (fun s => !SS.has c s)).map sRow)), A) := by
      have h1 : (grS (prH p A c) (N.filter (fun s => !SS.has c s))).1 = (grS A (N.filter (fun s => !SS.has c s))).1 := grow_fst rfl
      have h2 : (grS (prH p A c) (N.filter (fun s => !SS.has c s))).2 = ⟨A.objs ++ [.map (mb c), .cells [.d (.str p.name), .d (.slice (p.params.map Pm.row)), .d (.slice (p.body.map Stm.row)), .mapr A.objs.length]], (grS A (N.filter (fun s => !SS.has c s))).2.bufs⟩ := grow_heap.symm
      rw [h1, h2]
      exact afin_growY rfl A _ _ _ _
    simp (maxSteps := 1000000) only [go_sem, acondK_bool, acB_merge, Nat.reduceLT, Nat.reduceLeDiff, Nat.reduceEqDiff, Nat.reduceAdd, Nat.reduceSub, Nat.reduceMul, Nat.reduceBEq, Nat.reduceBNe, Nat.reduceBneDiff, Nat.reduceBeqDiff, Int.reduceToNat, Int.reduceLE, Int.reduceLT, Int.reduceEq, Int.reduceNe, Int.reduceNeg, Int.reduceAdd, Int.reduceSub, ↓reduceIte, reduceCtorEq, e4, hf]
  | cons x suf =>
    have e2 := ih x suf rfl
    rw [List.length_append, List.length_cons, List.length_nil, List.filter_append] at e2
    have e3 : (N.map sRow)[pre.length]? = some [.str x] := by rw [hl]; exact map_mid
    have e4 : decide ((pre.length : Int) < (N.length : Int)) = true := by rw [hl]; simp; omega
    have hf := afind_mb x c
    have o1 : (grS (prH p A c) (pre.filter (fun s => !SS.has c s))).2.objs = (prH p A c).objs := growObjs
    have hp2 : (pre.filter (fun s => !SS.has c s)).length ≤ 4194303 := by
      have := List.length_filter_le (fun s => !SS.has c s) pre
      rw [hl] at hnl
      simp at hnl
      omega
    have e5 := grS_append (prH p A c) (pre.filter (fun s => !SS.has c s)) x hp2
    cases h : SS.has c x with
    | true =>
      rw [h, if_pos rfl] at hf
      have e6 : [x].filter (fun s => !SS.has c s) = [] := by simp [h]
      rw [e6, List.append_nil] at e2
      simp (maxSteps := 1000000) only [go_sem, acondK_bool, acB_merge, Nat.reduceLT, Nat.reduceLeDiff, Nat.reduceEqDiff, Nat.reduceAdd, Nat.reduceSub, Nat.reduceMul, Nat.reduceBEq, Nat.reduceBNe, Nat.reduceBneDiff, Nat.reduceBeqDiff, Int.reduceToNat, Int.reduceLE, Int.reduceLT, Int.reduceEq, Int.reduceNe, Int.reduceNeg, Int.reduceAdd, Int.reduceSub, ↓reduceIte, reduceCtorEq, e3, e4, o1, an_obj, an_map, hf, h, e2, wrap_nat hb]
    | false =>
      rw [h, if_neg (by decide)] at hf
      have e6 : [x].filter (fun s => !SS.has c s) = [x] := by simp [h]
      rw [e6] at e2
      simp (maxSteps := 1000000) only [go_sem, acondK_bool, acB_merge, Nat.reduceLT, Nat.reduceLeDiff, Nat.reduceEqDiff, Nat.reduceAdd, Nat.reduceSub, Nat.reduceMul, Nat.reduceBEq, Nat.reduceBNe, Nat.reduceBneDiff, Nat.reduceBeqDiff, Int.reduceToNat, Int.reduceLE, Int.reduceLT, Int.reduceEq, Int.reduceNe, Int.reduceNeg, Int.reduceAdd, Int.reduceSub, ↓reduceIte, reduceCtorEq, e3, e4, o1, an_obj, an_map, hf, h, e5, e2, wrap_nat hb]
end Go.Proofs.YtdcmimpjmngdlaaGreat
set_option linter.all false
namespace Go.Proofs.YtdcmimpjmngdlaaGreat
open Go.Abs
attribute [local congr] ite_congr
set_option maxRecDepth 10000
def hv (l : List Bytes) (w : Bytes) : Bool := l.any fun s => s == w
theorem hasR14 (l : List Bytes) (hl : l.length ≤ 4194303) (w : Bytes) (A : AHeap) : acl C 41 [.d (.slice (l.map sRow)), .d (.str w)] A = some (.d (.bool (hv l w)), A) := by
  rw [k_call (c := C) (f := 41) rfl Tryz.func41 rfl (ok 41 (by kernel_rfl)) rfl Tryz.ntmps41 Tryz.results41 (by simp)]
  simp (maxSteps := 1000000) only [go_sem, acondK_bool, acB_merge, Nat.reduceLT, Nat.reduceLeDiff, Nat.reduceEqDiff, Nat.reduceAdd, Nat.reduceSub, Nat.reduceMul, Nat.reduceBEq, Nat.reduceBNe, Nat.reduceBneDiff, Nat.reduceBeqDiff, Int.reduceToNat, Int.reduceLE, Int.reduceLT, Int.reduceEq, Int.reduceNe, Int.reduceNeg, Int.reduceAdd, Int.reduceSub, ↓reduceIte, reduceCtorEq]
  refine loop_any (fun pre => [(0, .v (.d (.slice (l.map sRow)))), (1, .v (.d (.str w))), (5, .v (.d (.int .i64 (pre.length : Nat))))]) (fun _ => A) (fun _ suf => some (.d (.bool (hv suf w)), A)) l rfl rfl rfl ?_
  intro pre suf h ih
  have hb : pre.length < 9223372036854775807 := by rw [h] at hl; simp at hl; omega
  cases suf with
  | nil =>
    rw [List.append_nil] at h
    subst h
    have e4 : decide ((l.length : Int) < (l.length : Int)) = false := by simp
    have e5 : hv [] w = false := rfl
    rw [e5]
    simp (maxSteps := 1000000) only [go_sem, acondK_bool, acB_merge, Nat.reduceLT, Nat.reduceLeDiff, Nat.reduceEqDiff, Nat.reduceAdd, Nat.reduceSub, Nat.reduceMul, Nat.reduceBEq, Nat.reduceBNe, Nat.reduceBneDiff, Nat.reduceBeqDiff, Int.reduceToNat, Int.reduceLE, Int.reduceLT, Int.reduceEq, Int.reduceNe, Int.reduceNeg, Int.reduceAdd, Int.reduceSub, ↓reduceIte, reduceCtorEq, e4]
  | cons x suf =>
    have e2 := ih x suf rfl
    rw [List.length_append, List.length_cons, List.length_nil] at e2
    have e3 : (l.map sRow)[pre.length]? = some [.str x] := by rw [h]; exact map_mid
    have e4 : decide ((pre.length : Int) < (l.length : Int)) = true := by rw [h]; simp; omega
    have e5 : hv (x :: suf) w = ((x == w) || hv suf w) := rfl
    rw [e5]
    cases h1 : (x == w) <;> simp (maxSteps := 1000000) only [go_sem, acondK_bool, acB_merge, Nat.reduceLT, Nat.reduceLeDiff, Nat.reduceEqDiff, Nat.reduceAdd, Nat.reduceSub, Nat.reduceMul, Nat.reduceBEq, Nat.reduceBNe, Nat.reduceBneDiff, Nat.reduceBeqDiff, Int.reduceToNat, Int.reduceLE, Int.reduceLT, Int.reduceEq, Int.reduceNe, Int.reduceNeg, Int.reduceAdd, Int.reduceSub, ↓reduceIte, reduceCtorEq, e3, e4, e2, h1, wrap_nat hb]
theorem accR (op : Int) (A : AHeap) : acl C 25 [.d (.int .i64 op)] A = some (.d (.bool (acs op)), A) := by
  rw [k_call (c := C) (f := 25) rfl Tryz.func25 rfl (ok 25 (by kernel_rfl)) rfl Tryz.ntmps25 Tryz.results25 (by simp)]
  simp (maxSteps := 1000000) only [go_sem, acondK_bool, acB_merge, Nat.reduceLT, Nat.reduceLeDiff, Nat.reduceEqDiff, Nat.reduceAdd, Nat.reduceSub, Nat.reduceMul, Nat.reduceBEq, Nat.reduceBNe, Nat.reduceBneDiff, Nat.reduceBeqDiff, Int.reduceToNat, Int.reduceLE, Int.reduceLT, Int.reduceEq, Int.reduceNe, Int.reduceNeg, Int.reduceAdd, Int.reduceSub, ↓reduceIte, reduceCtorEq, k_drawn_q]
  rfl
mutual
def tnE (v : List Bytes) : E → Bool
  | .mk op n s args => (acs op || (decide (op = 3) && hv v s)) || tnEs v args
def tnEs (v : List Bytes) : List E → Bool
  | [] => false
  | x :: l => tnE v x || tnEs v l
end
theorem tnER (v : List Bytes) (hv' : v.length ≤ 4194303) : ∀ e, E.Ok e → ∀ (A : AHeap), acl C 24 [E.av e, .d (.slice (v.map sRow))] A = some (.d (.bool (tnE v e)), A) := by
  intro e
  induction e using E.ind with
  | h op n s args ih =>
    intro hok A
    have hlen := hok.fit
    have h1 := hasR14 v hv' s A
    rw [k_call (c := C) (f := 24) rfl Tryz.func24 rfl (ok 24 (by kernel_rfl)) rfl Tryz.ntmps24 Tryz.results24 (by simp)]
    unfold tnE
    cases c1 : (acs op || (decide (op = 3) && hv v s)) with
    | true => simp (maxSteps := 1000000) only [go_sem, acondK_bool, acB_merge, Nat.reduceLT, Nat.reduceLeDiff, Nat.reduceEqDiff, Nat.reduceAdd, Nat.reduceSub, Nat.reduceMul, Nat.reduceBEq, Nat.reduceBNe, Nat.reduceBneDiff, Nat.reduceBeqDiff, Int.reduceToNat, Int.reduceLE, Int.reduceLT, Int.reduceEq, Int.reduceNe, Int.reduceNeg, Int.reduceAdd, Int.reduceSub, ↓reduceIte, reduceCtorEq, k_drawn_q, accR, h1, c1]
    | false =>
    simp (maxSteps := 1000000) only [go_sem, acondK_bool, acB_merge, Nat.reduceLT, Nat.reduceLeDiff, Nat.reduceEqDiff, Nat.reduceAdd, Nat.reduceSub, Nat.reduceMul, Nat.reduceBEq, Nat.reduceBNe, Nat.reduceBneDiff, Nat.reduceBeqDiff, Int.reduceToNat, Int.reduceLE, Int.reduceLT, Int.reduceEq, Int.reduceNe, Int.reduceNeg, Int.reduceAdd, Int.reduceSub, ↓reduceIte, reduceCtorEq, k_drawn_q, accR, h1, c1]
    refine loop_any (fun pre => [(2, .box [.d (.int .i64 op), .d (.int .i64 n), .d (.str s), .d (.slice (args.map E.row))]), (1, .v (.d (.slice (v.map sRow)))), (5, .v (.d (.int .i64 (pre.length : Nat))))])
      (fun _ => A) (fun _ suf => some (.d (.bool (tnEs v suf)), A)) args rfl rfl rfl ?_
    intro pre suf hl ih2
    have hb : pre.length < 9223372036854775807 := by rw [hl] at hlen; simp at hlen; omega
    cases suf with
    | nil =>
      rw [List.append_nil] at hl
      subst hl
      have e4 : decide ((args.length : Int) < (args.length : Int)) = false := by simp
      have e5 : tnEs v [] = false := rfl
      rw [e5]
      simp (maxSteps := 1000000) only [go_sem, acondK_bool, acB_merge, Nat.reduceLT, Nat.reduceLeDiff, Nat.reduceEqDiff, Nat.reduceAdd, Nat.reduceSub, Nat.reduceMul, Nat.reduceBEq, Nat.reduceBNe, Nat.reduceBneDiff, Nat.reduceBeqDiff, Int.reduceToNat, Int.reduceLE, Int.reduceLT, Int.reduceEq, Int.reduceNe, Int.reduceNeg, Int.reduceAdd, Int.reduceSub, ↓reduceIte, reduceCtorEq, e4]
    | cons x suf =>
      have hx : x ∈ args := by rw [hl]; simp
      have e1 := ih x hx (hok.arg x hx) A
      have e2 := ih2 x suf rfl
      rw [List.length_append, List.length_cons, List.length_nil] at e2
      have e3 : (args.map E.row)[pre.length]? = some (E.row x) := by rw [hl]; exact map_mid
      have e4 : decide ((pre.length : Int) < (args.length : Int)) = true := by rw [hl]; simp; omega
      rw [E.row_eq] at e3
      have e5 : tnEs v (x :: suf) = (tnE v x || tnEs v suf) := rfl
      rw [e5]
      cases h2 : tnE v x <;> simp (maxSteps := 1000000) only [go_sem, acondK_bool, acB_merge, Nat.reduceLT, Nat.reduceLeDiff, Nat.reduceEqDiff, Nat.reduceAdd, Nat.reduceSub, Nat.reduceMul, Nat.reduceBEq, Nat.reduceBNe, Nat.reduceBneDiff, Nat.reduceBeqDiff, Int.reduceToNat, Int.reduceLE, Int.reduceLT, Int.reduceEq, Int.reduceNe, Int.reduceNeg, Int.reduceAdd, Int.reduceSub, ↓reduceIte, reduceCtorEq, k_drawn_q, e3, e4, e1, h2, e2, wrap_nat hb]
def herS (v : List Bytes) (u : Bool) (op : Int) (a b : E) : Bool := (u || tnE v a) || (decide (op = 6) && tnE v b)
def addS (v : List Bytes) (h : Bool) (name : Bytes) : List Bytes := if (h && !(name == []) && !hv v name) = true then v ++ [name] else v
mutual
def spS : Stm → List Bytes → Bool → List Bytes
  | .mk op name max a b body els => fun v u => spL els (spL body (addS v (herS v u op a b) name) (herS v u op a b)) (herS v u op a b)
def spL : List Stm → List Bytes → Bool → List Bytes
  | [] => fun v _ => v
  | x :: l => fun v u => spL l (spS x v u) u
end
theorem spL_snoc : ∀ (l : List Stm) (x : Stm) (v : List Bytes) (u : Bool), spL (l ++ [x]) v u = spS x (spL l v u) u
  | [], x, v, u => rfl
  | y :: l, x, v, u => by simp only [List.cons_append, spL]; exact spL_snoc l x _ u
theorem addS_len (v : List Bytes) (h : Bool) (name : Bytes) : (addS v h name).length ≤ v.length + 1 := by
  unfold addS; split <;> simp
mutual
theorem spS_len : ∀ (x : Stm) (d : Int) (v : List Bytes) (u : Bool), (spS x v u).length ≤ v.length + (visS x d).length
  | .mk op name max a b body els, d, v, u => by
    have h1 := spL_len body (IntKind.i64.wrap (d + 1)) (addS v (herS v u op a b) name) (herS v u op a b)
    have h2 := spL_len els (IntKind.i64.wrap (d + 1)) (spL body (addS v (herS v u op a b) name) (herS v u op a b)) (herS v u op a b)
    have h3 := addS_len v (herS v u op a b) name
    show (spL els _ _).length ≤ _
    rw [visS]
    simp only [List.length_cons, List.length_append]
    omega
theorem spL_len : ∀ (l : List Stm) (d : Int) (v : List Bytes) (u : Bool), (spL l v u).length ≤ v.length + (visSs l d).length
  | [], d, v, u => by simp [spL, visSs]
  | x :: l, d, v, u => by
    have h1 := spS_len x d v u
    have h2 := spL_len l d (spS x v u) u
    show (spL l (spS x v u) u).length ≤ _
    rw [visSs, List.length_append]
    omega
end
/-- handing on a list of names that has just grown -/
theorem own_clean (A : AHeap) (l : List Bytes) (x : Bytes) (a b : Dat) : acleanVs (grS A (l ++ [x])).2 [.d a, (grS A (l ++ [x])).1, .d b] = ([.d a, .d (.slice ((l ++ [x]).map sRow)), .d b], ⟨A.objs, A.bufs ++ [⟨9, 1, (l ++ [x]).map sRow, ((l ++ [x]).map sRow).length⟩]⟩) := by
  rw [grS_snoc]
  simp [acleanVs, acleanV, aclean, arows, AHeap.freeze, modify_last]
def SpGood (l : List Stm) (d : Int) : Prop := ∀ (v : List Bytes) (u : Bool), v.length + (visSs l d).length ≤ 4000000 → ∀ (A : AHeap), acl C 39 [.d (.slice (l.map Stm.row)), .d (.slice (v.map sRow)), .d (.bool u)] A = some (.d (.slice ((spL l v u).map sRow)), A)
theorem sp_of (l : List Stm) (hlen : l.length ≤ 4194303) (d : Int) (hok : ∀ x ∈ l, x.Ok) (ih : ∀ x ∈ l, SpGood x.body (IntKind.i64.wrap (d + 1)) ∧ SpGood x.els (IntKind.i64.wrap (d + 1))) : SpGood l d := by
  intro v u hvl A
  rw [k_call (c := C) (f := 39) rfl Tryz.func39 rfl (ok 39 (by kernel_rfl)) rfl Tryz.ntmps39 Tryz.results39 (by simp)]
  simp (maxSteps := 1000000) only [go_sem, acondK_bool, acB_merge, Nat.reduceLT, Nat.reduceLeDiff, Nat.reduceEqDiff, Nat.reduceAdd, Nat.reduceSub, Nat.reduceMul, Nat.reduceBEq, Nat.reduceBNe, Nat.reduceBneDiff, Nat.reduceBeqDiff, Int.reduceToNat, Int.reduceLE, Int.reduceLT, Int.reduceEq, Int.reduceNe, Int.reduceNeg, Int.reduceAdd, Int.reduceSub, ↓reduceIte, reduceCtorEq]
  refine loop_invH (fun j (s : List ABuf) => [(1, .v (.d (.slice ((spL (l.take j) v u).map sRow)))), (7, .v (.d (.int .i64 (j : Nat)))), (2, .v (.d (.bool u))), (0, .v (.d (.slice (l.map Stm.row))))]) (fun s => ⟨A.objs, A.bufs ++ s⟩) (fun _ _ _ => True) l [] rfl (by simp) trivial ?_
  intro pre suf s hl _ ih2
  have hb : pre.length < 9223372036854775807 := by rw [hl] at hlen; simp at hlen; omega
  have htk : l.take pre.length = pre := by rw [hl]; simp
  rw [htk]
  have hfin : ∀ w : Dat, afinR C 39 A ⟨A.objs, A.bufs ++ s⟩ (some (.d w)) = some (.d w, A) := fun w => afinR_buf (c := C) (A0 := A) (bufs := s) (v := .d w) rfl rfl
  cases suf with
  | nil =>
    rw [List.append_nil] at hl
    subst hl
    have e4 : decide ((l.length : Int) < (l.length : Int)) = false := by simp
    simp (maxSteps := 1000000) only [go_sem, acondK_bool, acB_merge, Nat.reduceLT, Nat.reduceLeDiff, Nat.reduceEqDiff, Nat.reduceAdd, Nat.reduceSub, Nat.reduceMul, Nat.reduceBEq, Nat.reduceBNe, Nat.reduceBneDiff, Nat.reduceBeqDiff, Int.reduceToNat, Int.reduceLE, Int.reduceLT, Int.reduceEq, Int.reduceNe, Int.reduceNeg, Int.reduceAdd, Int.reduceSub, ↓reduceIte, reduceCtorEq, e4, hfin]
  | cons x suf =>
    have hx : x ∈ l := by rw [hl]; simp
    have hpl := visSs_pre_len pre suf x d
    rw [← hl] at hpl
    have hvp := spL_len pre d v u
    have hpp : (visSs pre d).length + (visS x d).length ≤ (visSs l d).length := by
      rw [hl, visSs_append, visSs]; simp only [List.length_append]; omega
    have e3 : (l.map Stm.row)[pre.length]? = some (Stm.row x) := by rw [hl]; exact map_mid
    have e4 : decide ((pre.length : Int) < (l.length : Int)) = true := by rw [hl]; simp; omega
    have e2 := fun s' => ih2 x suf s' rfl trivial
    have htk2 : l.take (pre.length + 1) = pre ++ [x] := by rw [hl, List.take_append]; simp; exact List.take_of_length_le (by omega)
    rw [htk2, spL_snoc] at e2
    generalize hw : spL pre v u = w at *
    have hwl : w.length ≤ 4000000 := by omega
    have b1 := (ih x hx).1
    have b2 := (ih x hx).2
    have t1 := fun A => tnER w (by omega) x.a (Stm.Ok.a (hok x hx)) A
    have t2 := fun A => tnER w (by omega) x.b (Stm.Ok.b (hok x hx)) A
    have hs1 := hasR14 w (by omega) x.name ⟨A.objs, A.bufs ++ s⟩
    obtain ⟨op, name, max, a, b, body, els⟩ := x
    rw [Stm.row_eq] at e3
    change ∀ A, acl C _ [E.av a, _] A = _ at t1
    change ∀ A, acl C _ [E.av b, _] A = _ at t2
    change acl C _ [_, .d (.str name)] _ = _ at hs1
    have f1 : spS (.mk op name max a b body els) w u = spL els (spL body (addS w (herS w u op a b) name) (herS w u op a b)) (herS w u op a b) := rfl
    rw [f1] at e2
    have hvx : (visSs body (IntKind.i64.wrap (d + 1))).length + (visSs els (IntKind.i64.wrap (d + 1))).length + 1 ≤ (visS (.mk op name max a b body els) d).length := by
      rw [visS]; simp only [List.length_cons, List.length_append]; omega
    have ha := addS_len w (herS w u op a b) name
    have hsb := spL_len body (IntKind.i64.wrap (d + 1)) (addS w (herS w u op a b) name) (herS w u op a b)
    have g1 := b1 (addS w (herS w u op a b) name) (herS w u op a b) (by show _ + (visSs body _).length ≤ _; omega)
    have g2 := b2 (spL body (addS w (herS w u op a b) name) (herS w u op a b)) (herS w u op a b) (by show _ + (visSs els _).length ≤ _; omega)
    change ∀ A, acl C _ [.d (.slice (body.map Stm.row)), _, _] A = some (.d (.slice ((spL body _ _).map sRow)), A) at g1
    change ∀ A, acl C _ [.d (.slice (els.map Stm.row)), _, _] A = some (.d (.slice ((spL els _ _).map sRow)), A) at g2
    generalize hq : spL els (spL body (addS w (herS w u op a b) name) (herS w u op a b)) (herS w u op a b) = q at *
    generalize hv2 : spL body (addS w (herS w u op a b) name) (herS w u op a b) = v2 at *
    have q1 : herS w u op a b = ((u || tnE w a) || (decide (op = 6) && tnE w b)) := rfl
    have q2 : addS w (herS w u op a b) name = if (herS w u op a b && !(name == []) && !hv w name) = true then w ++ [name] else w := rfl
    cases hadd : (herS w u op a b && !(name == []) && !hv w name) with
    | false =>
      rw [hadd, if_neg (by decide)] at q2
      rw [q2] at g1
      cases hh : herS w u op a b with
      | false =>
        rw [hh] at q1 g1 g2
        cases h6 : decide (op = 6) with
        | false =>
          rw [h6, Bool.false_and, Bool.or_false] at q1
          simp (maxSteps := 1000000) only [go_sem, acondK_bool, acB_merge, Nat.reduceLT, Nat.reduceLeDiff, Nat.reduceEqDiff, Nat.reduceAdd, Nat.reduceSub, Nat.reduceMul, Nat.reduceBEq, Nat.reduceBNe, Nat.reduceBneDiff, Nat.reduceBeqDiff, Int.reduceToNat, Int.reduceLE, Int.reduceLT, Int.reduceEq, Int.reduceNe, Int.reduceNeg, Int.reduceAdd, Int.reduceSub, ↓reduceIte, reduceCtorEq, k_drawn_q, e3, e4, t1, ← q1, h6, g1, g2, e2, wrap_nat hb]
        | true =>
          rw [h6, Bool.true_and] at q1
          simp (maxSteps := 1000000) only [go_sem, acondK_bool, acB_merge, Nat.reduceLT, Nat.reduceLeDiff, Nat.reduceEqDiff, Nat.reduceAdd, Nat.reduceSub, Nat.reduceMul, Nat.reduceBEq, Nat.reduceBNe, Nat.reduceBneDiff, Nat.reduceBeqDiff, Int.reduceToNat, Int.reduceLE, Int.reduceLT, Int.reduceEq, Int.reduceNe, Int.reduceNeg, Int.reduceAdd, Int.reduceSub, ↓reduceIte, reduceCtorEq, k_drawn_q, e3, e4, t1, t2, ← q1, h6, g1, g2, e2, wrap_nat hb]
      | true =>
        rw [hh] at q1 g1 g2 hadd
        rw [Bool.true_and] at hadd
        cases hnm : (name == []) with
        | true =>
          cases h6 : decide (op = 6) with
          | false =>
            rw [h6, Bool.false_and, Bool.or_false] at q1
            simp (maxSteps := 1000000) only [go_sem, acondK_bool, acB_merge, Nat.reduceLT, Nat.reduceLeDiff, Nat.reduceEqDiff, Nat.reduceAdd, Nat.reduceSub, Nat.reduceMul, Nat.reduceBEq, Nat.reduceBNe, Nat.reduceBneDiff, Nat.reduceBeqDiff, Int.reduceToNat, Int.reduceLE, Int.reduceLT, Int.reduceEq, Int.reduceNe, Int.reduceNeg, Int.reduceAdd, Int.reduceSub, ↓reduceIte, reduceCtorEq, k_drawn_q, e3, e4, t1, ← q1, hnm, h6, g1, g2, e2, wrap_nat hb]
          | true =>
            rw [h6, Bool.true_and] at q1
            simp (maxSteps := 1000000) only [go_sem, acondK_bool, acB_merge, Nat.reduceLT, Nat.reduceLeDiff, Nat.reduceEqDiff, Nat.reduceAdd, Nat.reduceSub, Nat.reduceMul, Nat.reduceBEq, Nat.reduceBNe, Nat.reduceBneDiff, Nat.reduceBeqDiff, Int.reduceToNat, Int.reduceLE, Int.reduceLT, Int.reduceEq, Int.reduceNe, Int.reduceNeg, Int.reduceAdd, Int.reduceSub, ↓reduceIte, reduceCtorEq, k_drawn_q, e3, e4, t1, t2, ← q1, hnm, h6, g1, g2, e2, wrap_nat hb]
        | false =>
          rw [hnm, Bool.not_false, Bool.true_and] at hadd
          have hvn : hv w name = true := by cases h : hv w name with
            | true => rfl
            | false => rw [h] at hadd; cases hadd
          cases h6 : decide (op = 6) with
          | false =>
            rw [h6, Bool.false_and, Bool.or_false] at q1
            simp (maxSteps := 1000000) only [go_sem, acondK_bool, acB_merge, Nat.reduceLT, Nat.reduceLeDiff, Nat.reduceEqDiff, Nat.reduceAdd, Nat.reduceSub, Nat.reduceMul, Nat.reduceBEq, Nat.reduceBNe, Nat.reduceBneDiff, Nat.reduceBeqDiff, Int.reduceToNat, Int.reduceLE, Int.reduceLT, Int.reduceEq, Int.reduceNe, Int.reduceNeg, Int.reduceAdd, Int.reduceSub, ↓reduceIte, reduceCtorEq, k_drawn_q, e3, e4, t1, ← q1, hnm, hs1, hvn, h6, g1, g2, e2, wrap_nat hb]
          | true =>
            rw [h6, Bool.true_and] at q1
            simp (maxSteps := 1000000) only [go_sem, acondK_bool, acB_merge, Nat.reduceLT, Nat.reduceLeDiff, Nat.reduceEqDiff, Nat.reduceAdd, Nat.reduceSub, Nat.reduceMul, Nat.reduceBEq, Nat.reduceBNe, Nat.reduceBneDiff, Nat.reduceBeqDiff, Int.reduceToNat, Int.reduceLE, Int.reduceLT, Int.reduceEq, Int.reduceNe, Int.reduceNeg, Int.reduceAdd, Int.reduceSub, ↓reduceIte, reduceCtorEq, k_drawn_q, e3, e4, t1, t2, ← q1, hnm, hs1, hvn, h6, g1, g2, e2, wrap_nat hb]
    | true =>
      rw [hadd, if_pos rfl] at q2
      rw [Bool.and_eq_true, Bool.and_eq_true] at hadd
      obtain ⟨⟨hh, hnm⟩, hvn⟩ := hadd
      have hnm : (name == []) = false := by simpa using hnm
      have hvn : hv w name = false := by simpa using hvn
      rw [q2, hh] at g1
      rw [hh] at q1 g2
      have a1 := grS_first ⟨A.objs, A.bufs ++ s⟩ w (by omega)
      have a2 := grS_append ⟨A.objs, A.bufs ++ s⟩ w name (by omega)
      have g3 : acl C 39 [.d (.slice (body.map Stm.row)), (grS ⟨A.objs, A.bufs ++ s⟩ (w ++ [name])).1, .d (.bool true)] (grS ⟨A.objs, A.bufs ++ s⟩ (w ++ [name])).2 =
          some (.d (.slice (v2.map sRow)), ⟨A.objs, A.bufs ++ (s ++ [⟨9, 1, (w ++ [name]).map sRow, ((w ++ [name]).map sRow).length⟩])⟩) := by
        rw [← List.append_assoc, ← g1]
        refine acl_clean rfl Tryz.func39 rfl (ok 39 (by kernel_rfl)) (by rw [Tryz.ntmps39]; simp) (by rw [Tryz.ntmps39]; simp) rfl (own_clean ⟨A.objs, A.bufs ++ s⟩ w name _ _) rfl ?_ ?_
        · rw [grS_snoc]
        · rw [grS_snoc]; simp
      have e2' := e2 (s ++ [⟨9, 1, (w ++ [name]).map sRow, ((w ++ [name]).map sRow).length⟩])
      generalize (⟨9, 1, (w ++ [name]).map sRow, ((w ++ [name]).map sRow).length⟩ : ABuf) = fb at *
      cases h6 : decide (op = 6) with
      | false =>
        rw [h6, Bool.false_and, Bool.or_false] at q1
        simp (maxSteps := 1000000) only [go_sem, acondK_bool, acB_merge, Nat.reduceLT, Nat.reduceLeDiff, Nat.reduceEqDiff, Nat.reduceAdd, Nat.reduceSub, Nat.reduceMul, Nat.reduceBEq, Nat.reduceBNe, Nat.reduceBneDiff, Nat.reduceBeqDiff, Int.reduceToNat, Int.reduceLE, Int.reduceLT, Int.reduceEq, Int.reduceNe, Int.reduceNeg, Int.reduceAdd, Int.reduceSub, ↓reduceIte, reduceCtorEq, k_drawn_q, e3, e4, t1, ← q1, hnm, hs1, hvn, h6, a1, a2, g3, g2, e2', wrap_nat hb]
      | true =>
        rw [h6, Bool.true_and] at q1
        simp (maxSteps := 1000000) only [go_sem, acondK_bool, acB_merge, Nat.reduceLT, Nat.reduceLeDiff, Nat.reduceEqDiff, Nat.reduceAdd, Nat.reduceSub, Nat.reduceMul, Nat.reduceBEq, Nat.reduceBNe, Nat.reduceBneDiff, Nat.reduceBeqDiff, Int.reduceToNat, Int.reduceLE, Int.reduceLT, Int.reduceEq, Int.reduceNe, Int.reduceNeg, Int.reduceAdd, Int.reduceSub, ↓reduceIte, reduceCtorEq, k_drawn_q, e3, e4, t1, t2, ← q1, hnm, hs1, hvn, h6, a1, a2, g3, g2, e2', wrap_nat hb]
theorem sp_in : ∀ x : Stm, x.Ok → ∀ d, SpGood x.body (IntKind.i64.wrap (d + 1)) ∧ SpGood x.els (IntKind.i64.wrap (d + 1)) := by
  intro x
  induction x using Stm.ind with
  | h op name max a b body els ihb ihe =>
    intro hok d
    obtain ⟨f1, f2⟩ := stmFit2 hok
    exact ⟨sp_of body f1 _ (Stm.Ok.bodyOk hok) (fun y hy => ihb y hy (Stm.Ok.bodyOk hok y hy) _), sp_of els f2 _ (Stm.Ok.elsOk hok) (fun y hy => ihe y hy (Stm.Ok.elsOk hok y hy) _)⟩
theorem spP (p : Pr) (hp : p.Ok) : SpGood p.body 1 := sp_of p.body hp.bfit 1 hp.body fun x hx => sp_in x (hp.body x hx) 1
end Go.Proofs.YtdcmimpjmngdlaaGreat
