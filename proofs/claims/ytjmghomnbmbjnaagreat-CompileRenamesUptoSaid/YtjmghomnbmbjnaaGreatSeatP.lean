/- Equality of procedures, on both sides. -/
import Derived.Test.YtjmghomnbmbjnaaGreatSeatD
import Derived.Test.YtjmghomnbmbjnaaGreatSeatE
set_option linter.unusedVariables false
set_option linter.unusedSimpArgs false
set_option linter.all false
set_option linter.deprecated false
set_option linter.all false
namespace Go.Proofs.YtjmghomnbmbjnaaGreat
open Go.Abs
attribute [local congr] ite_congr
set_option maxRecDepth 10000
mutual
def eqS : Stm → Stm → Bool
  | .mk op name max a b body els, y => decide (op = y.op) && (name == y.name) && decide (max = y.max) && eqE a y.a && eqE b y.b && (decide ((body.length : Int) = (y.body.length : Int)) && eqSs body y.body) && (decide ((els.length : Int) = (y.els.length : Int)) && eqSs els y.els)
def eqSs : List Stm → List Stm → Bool
  | [], _ => true
  | x :: l, y :: m => eqS x y && eqSs l m
  | _ :: _, [] => true
end
theorem stmParts {x : Stm} (h : x.Ok) : x.a.Ok ∧ x.b.Ok ∧ x.body.length ≤ 1099511627776 ∧ x.els.length ≤ 1099511627776 ∧ (∀ y ∈ x.body, y.Ok) ∧ (∀ y ∈ x.els, y.Ok) := by
  cases h; exact ⟨by assumption, by assumption, by assumption, by assumption, by assumption, by assumption⟩
end Go.Proofs.YtjmghomnbmbjnaaGreat
set_option linter.all false
namespace Go.Proofs.YtjmghomnbmbjnaaGreat
open Go.Abs
attribute [local congr] ite_congr
set_option maxRecDepth 10000
mutual
theorem eqE_iff : ∀ x y, eqE x y = true ↔ x = y
  | .mk op n s args, .mk op' n' s' args' => by
    simp only [eqE, Bool.and_eq_true, decide_eq_true_eq, beq_iff_eq, E.mk.injEq]
    constructor
    · rintro ⟨⟨⟨⟨h1, h2⟩, h3⟩, h4⟩, h5⟩
      exact ⟨h1, h2, h3, (eqEs_iff args args' (Int.ofNat_inj.1 h4)).1 h5⟩
    · rintro ⟨rfl, rfl, rfl, rfl⟩
      exact ⟨⟨⟨⟨rfl, rfl⟩, rfl⟩, rfl⟩, (eqEs_iff args args rfl).2 rfl⟩
theorem eqEs_iff : ∀ (l m : List E), l.length = m.length → (eqEs l m = true ↔ l = m)
  | [], [], _ => by simp [eqEs]
  | [], _ :: _, h => by simp at h
  | _ :: _, [], h => by simp at h
  | x :: l, y :: m, h => by
    simp only [eqEs, Bool.and_eq_true, List.cons.injEq]
    rw [eqE_iff x y, eqEs_iff l m (by simpa using h)]
end
mutual
theorem eqS_iff : ∀ x y, eqS x y = true ↔ x = y
  | .mk op name max a b body els, .mk op' name' max' a' b' body' els' => by
    simp only [eqS, Bool.and_eq_true, decide_eq_true_eq, beq_iff_eq, Stm.mk.injEq, eqE_iff]
    constructor
    · rintro ⟨⟨⟨⟨⟨⟨h1, h2⟩, h3⟩, h4⟩, h5⟩, h6, h7⟩, h8, h9⟩
      exact ⟨h1, h2, h3, h4, h5, (eqSs_iff body body' (Int.ofNat_inj.1 h6)).1 h7, (eqSs_iff els els' (Int.ofNat_inj.1 h8)).1 h9⟩
    · rintro ⟨rfl, rfl, rfl, rfl, rfl, rfl, rfl⟩
      exact ⟨⟨⟨⟨⟨⟨rfl, rfl⟩, rfl⟩, rfl⟩, rfl⟩, rfl, (eqSs_iff body body rfl).2 rfl⟩, rfl, (eqSs_iff els els rfl).2 rfl⟩
theorem eqSs_iff : ∀ (l m : List Stm), l.length = m.length → (eqSs l m = true ↔ l = m)
  | [], [], _ => by simp [eqSs]
  | [], _ :: _, h => by simp at h
  | _ :: _, [], h => by simp at h
  | x :: l, y :: m, h => by
    simp only [eqSs, Bool.and_eq_true, List.cons.injEq]
    rw [eqS_iff x y, eqSs_iff l m (by simpa using h)]
end
end Go.Proofs.YtjmghomnbmbjnaaGreat
set_option linter.all false
namespace Go.Proofs.YtjmghomnbmbjnaaGreat
open Go.Abs
attribute [local congr] ite_congr
set_option maxRecDepth 10000
def renN (a b s : Bytes) : Bytes := if (s == a) = true then b else s
mutual
def renE (a b : Bytes) : E → E
  | .mk op n s args => .mk op n (if decide (op = 3) = true then renN a b s else s) (renEs a b args)
def renEs (a b : Bytes) : List E → List E
  | [] => []
  | x :: l => renE a b x :: renEs a b l
end
mutual
def renS (a b : Bytes) : Stm → Stm
  | .mk op name max x y body els => .mk op (renN a b name) max (renE a b x) (renE a b y) (renSs a b body) (renSs a b els)
def renSs (a b : Bytes) : List Stm → List Stm
  | [] => []
  | x :: l => renS a b x :: renSs a b l
end
theorem renEs_map (a b : Bytes) : ∀ l, renEs a b l = l.map (renE a b)
  | [] => rfl
  | x :: l => by simp [renEs, renEs_map a b l]
theorem renSs_map (a b : Bytes) : ∀ l, renSs a b l = l.map (renS a b)
  | [] => rfl
  | x :: l => by simp [renSs, renSs_map a b l]
@[go_sem] theorem swapR (a b s : Bytes) (A : AHeap) : acl C 39 [.d (.str s), .d (.str a), .d (.str b)] A = some (.d (.str (renN a b s)), A) := by
  rw [k_call (c := C) (f := 39) rfl Tryz.func39 rfl (ok 39 (by kernel_rfl)) rfl Tryz.ntmps39 Tryz.results39 (by simp)]
  cases h : (s == a) with
  | false => simp (maxSteps := 1000000) +contextual only [go_sem, acondK_bool, acB_merge, Nat.reduceLT, Nat.reduceLeDiff, Nat.reduceEqDiff, Nat.reduceAdd, Nat.reduceSub, Nat.reduceMul, Nat.reduceBEq, Nat.reduceBNe, Nat.reduceBneDiff, Nat.reduceBeqDiff, Int.reduceToNat, Int.reduceLE, Int.reduceLT, Int.reduceEq, Int.reduceNe, Int.reduceNeg, Int.reduceAdd, Int.reduceSub, ↓reduceIte, reduceCtorEq, h, renN]
  | true => simp (maxSteps := 1000000) +contextual only [go_sem, acondK_bool, acB_merge, Nat.reduceLT, Nat.reduceLeDiff, Nat.reduceEqDiff, Nat.reduceAdd, Nat.reduceSub, Nat.reduceMul, Nat.reduceBEq, Nat.reduceBNe, Nat.reduceBneDiff, Nat.reduceBeqDiff, Int.reduceToNat, Int.reduceLE, Int.reduceLT, Int.reduceEq, Int.reduceNe, Int.reduceNeg, Int.reduceAdd, Int.reduceSub, ↓reduceIte, reduceCtorEq, h, renN]
end Go.Proofs.YtjmghomnbmbjnaaGreat
set_option linter.all false
namespace Go.Proofs.YtjmghomnbmbjnaaGreat
open Go.Abs
attribute [local congr] ite_congr
set_option maxRecDepth 10000
theorem renameExprR (a b : Bytes) : ∀ e, E.Ok e → ∀ (A : AHeap), acl C 64 [E.av e, .d (.str a), .d (.str b)] A = some (E.av (renE a b e), A) := by
  intro e
  induction e using E.ind with
  | h op n s args ih =>
    intro hok A
    have hlen := hok.fit
    rw [k_call (c := C) (f := 64) rfl Tryz.func64 rfl (ok 64 (by kernel_rfl)) rfl Tryz.ntmps64 Tryz.results64 (by simp)]
    have fin : E.av (renE a b (.mk op n s args)) = .agg [.d (.int .i64 op), .d (.int .i64 n), .d (.str (if decide (op = 3) = true then renN a b s else s)), .d (.slice ((args.map (renE a b)).map E.row))] := by
      simp only [renE, renEs_map]
    rw [fin]
    cases h3 : decide (op = 3) with
    | false =>
      simp (maxSteps := 1000000) +contextual only [go_sem, acondK_bool, acB_merge, Nat.reduceLT, Nat.reduceLeDiff, Nat.reduceEqDiff, Nat.reduceAdd, Nat.reduceSub, Nat.reduceMul, Nat.reduceBEq, Nat.reduceBNe, Nat.reduceBneDiff, Nat.reduceBeqDiff, Int.reduceToNat, Int.reduceLE, Int.reduceLT, Int.reduceEq, Int.reduceNe, Int.reduceNeg, Int.reduceAdd, Int.reduceSub, ↓reduceIte, reduceCtorEq, h3]
      refine loop_any (fun pre => [(8, .v (.d (.int .i64 (pre.length : Nat)))), (7, .box [.d (.int .i64 op), .d (.int .i64 n), .d (.str s), (grE A (pre.map (renE a b))).1]), (2, .v (.d (.str b))), (1, .v (.d (.str a))), (3, .box [.d (.int .i64 op), .d (.int .i64 n), .d (.str s), .d (.slice (args.map E.row))]),
          (6, .box [.d (.int .i64 0), .d (.int .i64 0), .d (.str []), .nilS])])
        (fun pre => (grE A (pre.map (renE a b))).2) (fun _ _ => some (.agg [.d (.int .i64 op), .d (.int .i64 n), .d (.str s), .d (.slice ((args.map (renE a b)).map E.row))], A)) args rfl rfl (by simp) ?_
      intro pre suf hl ih2
      have hb : pre.length < 9223372036854775807 := by rw [hl] at hlen; simp at hlen; omega
      cases suf with
      | nil =>
        rw [List.append_nil] at hl
        subst hl
        have hf := afin_grownE (f := 64) rfl A 50 4 ((args.map (renE a b)).map E.row) (.int .i64 op) (.int .i64 n) (.str s)
        simp (maxSteps := 1000000) +contextual only [go_sem, acondK_bool, acB_merge, Nat.reduceLT, Nat.reduceLeDiff, Nat.reduceEqDiff, Nat.reduceAdd, Nat.reduceSub, Nat.reduceMul, Nat.reduceBEq, Nat.reduceBNe, Nat.reduceBneDiff, Nat.reduceBeqDiff, Int.reduceToNat, Int.reduceLE, Int.reduceLT, Int.reduceEq, Int.reduceNe, Int.reduceNeg, Int.reduceAdd, Int.reduceSub, ↓reduceIte, reduceCtorEq, one_grow, cells_grow, hf]
      | cons x suf =>
        have hx : x ∈ args := by rw [hl]; simp
        have e1 := ih x hx (hok.arg x hx) (grE A (pre.map (renE a b))).2
        have e2 := ih2 x suf rfl
        rw [List.length_append, List.length_cons, List.length_nil, List.map_append, List.map_cons, List.map_nil] at e2
        have e3 : (args.map E.row)[pre.length]? = some (E.row x) := by rw [hl]; exact map_mid
        have e4 : decide ((pre.length : Int) < (args.length : Int)) = true := by rw [hl]; simp; omega
        have e5 := grE_append A (pre.map (renE a b)) (renE a b x) (by rw [hl] at hlen; simp at hlen ⊢; omega)
        rw [E.row_eq] at e3 e5
        simp (maxSteps := 1000000) +contextual only [go_sem, acondK_bool, acB_merge, Nat.reduceLT, Nat.reduceLeDiff, Nat.reduceEqDiff, Nat.reduceAdd, Nat.reduceSub, Nat.reduceMul, Nat.reduceBEq, Nat.reduceBNe, Nat.reduceBneDiff, Nat.reduceBeqDiff, Int.reduceToNat, Int.reduceLE, Int.reduceLT, Int.reduceEq, Int.reduceNe, Int.reduceNeg, Int.reduceAdd, Int.reduceSub, ↓reduceIte, reduceCtorEq, e3, e4, e1, e5, one_grow, cells_grow, k_drawn_t]
        refine Eq.trans (ctE_ok (by repeat (first | exact MLe.nil | apply MLe.q | apply MLe.o | apply MLe.b | apply MLe.l)) (by kernel_rfl)) ?_
        simp (maxSteps := 1000000) +contextual only [go_sem, acondK_bool, acB_merge, Nat.reduceLT, Nat.reduceLeDiff, Nat.reduceEqDiff, Nat.reduceAdd, Nat.reduceSub, Nat.reduceMul, Nat.reduceBEq, Nat.reduceBNe, Nat.reduceBneDiff, Nat.reduceBeqDiff, Int.reduceToNat, Int.reduceLE, Int.reduceLT, Int.reduceEq, Int.reduceNe, Int.reduceNeg, Int.reduceAdd, Int.reduceSub, ↓reduceIte, reduceCtorEq, e2, wrap_nat hb]
    | true =>
      simp (maxSteps := 1000000) +contextual only [go_sem, acondK_bool, acB_merge, Nat.reduceLT, Nat.reduceLeDiff, Nat.reduceEqDiff, Nat.reduceAdd, Nat.reduceSub, Nat.reduceMul, Nat.reduceBEq, Nat.reduceBNe, Nat.reduceBneDiff, Nat.reduceBeqDiff, Int.reduceToNat, Int.reduceLE, Int.reduceLT, Int.reduceEq, Int.reduceNe, Int.reduceNeg, Int.reduceAdd, Int.reduceSub, ↓reduceIte, reduceCtorEq, h3]
      refine loop_any (fun pre => [(8, .v (.d (.int .i64 (pre.length : Nat)))), (7, .box [.d (.int .i64 op), .d (.int .i64 n), .d (.str (renN a b s)), (grE A (pre.map (renE a b))).1]), (2, .v (.d (.str b))), (1, .v (.d (.str a))), (3, .box [.d (.int .i64 op), .d (.int .i64 n), .d (.str s), .d (.slice (args.map E.row))]),
          (6, .box [.d (.int .i64 0), .d (.int .i64 0), .d (.str []), .nilS])])
        (fun pre => (grE A (pre.map (renE a b))).2) (fun _ _ => some (.agg [.d (.int .i64 op), .d (.int .i64 n), .d (.str (renN a b s)), .d (.slice ((args.map (renE a b)).map E.row))], A)) args rfl rfl (by simp) ?_
      intro pre suf hl ih2
      have hb : pre.length < 9223372036854775807 := by rw [hl] at hlen; simp at hlen; omega
      cases suf with
      | nil =>
        rw [List.append_nil] at hl
        subst hl
        have hf := afin_grownE (f := 64) rfl A 50 4 ((args.map (renE a b)).map E.row) (.int .i64 op) (.int .i64 n) (.str (renN a b s))
        simp (maxSteps := 1000000) +contextual only [go_sem, acondK_bool, acB_merge, Nat.reduceLT, Nat.reduceLeDiff, Nat.reduceEqDiff, Nat.reduceAdd, Nat.reduceSub, Nat.reduceMul, Nat.reduceBEq, Nat.reduceBNe, Nat.reduceBneDiff, Nat.reduceBeqDiff, Int.reduceToNat, Int.reduceLE, Int.reduceLT, Int.reduceEq, Int.reduceNe, Int.reduceNeg, Int.reduceAdd, Int.reduceSub, ↓reduceIte, reduceCtorEq, one_grow, cells_grow, hf]
      | cons x suf =>
        have hx : x ∈ args := by rw [hl]; simp
        have e1 := ih x hx (hok.arg x hx) (grE A (pre.map (renE a b))).2
        have e2 := ih2 x suf rfl
        rw [List.length_append, List.length_cons, List.length_nil, List.map_append, List.map_cons, List.map_nil] at e2
        have e3 : (args.map E.row)[pre.length]? = some (E.row x) := by rw [hl]; exact map_mid
        have e4 : decide ((pre.length : Int) < (args.length : Int)) = true := by rw [hl]; simp; omega
        have e5 := grE_append A (pre.map (renE a b)) (renE a b x) (by rw [hl] at hlen; simp at hlen ⊢; omega)
        rw [E.row_eq] at e3 e5
        simp (maxSteps := 1000000) +contextual only [go_sem, acondK_bool, acB_merge, Nat.reduceLT, Nat.reduceLeDiff, Nat.reduceEqDiff, Nat.reduceAdd, Nat.reduceSub, Nat.reduceMul, Nat.reduceBEq, Nat.reduceBNe, Nat.reduceBneDiff, Nat.reduceBeqDiff, Int.reduceToNat, Int.reduceLE, Int.reduceLT, Int.reduceEq, Int.reduceNe, Int.reduceNeg, Int.reduceAdd, Int.reduceSub, ↓reduceIte, reduceCtorEq, e3, e4, e1, e5, one_grow, cells_grow, k_drawn_t]
        refine Eq.trans (ctE_ok (by repeat (first | exact MLe.nil | apply MLe.q | apply MLe.o | apply MLe.b | apply MLe.l)) (by kernel_rfl)) ?_
        simp (maxSteps := 1000000) +contextual only [go_sem, acondK_bool, acB_merge, Nat.reduceLT, Nat.reduceLeDiff, Nat.reduceEqDiff, Nat.reduceAdd, Nat.reduceSub, Nat.reduceMul, Nat.reduceBEq, Nat.reduceBNe, Nat.reduceBneDiff, Nat.reduceBeqDiff, Int.reduceToNat, Int.reduceLE, Int.reduceLT, Int.reduceEq, Int.reduceNe, Int.reduceNeg, Int.reduceAdd, Int.reduceSub, ↓reduceIte, reduceCtorEq, e2, wrap_nat hb]
noncomputable abbrev grT (A : AHeap) (l : List Stm) : AV × AHeap := agrow A 63 13 (l.map Stm.row)
theorem grT_append (A : AHeap) (l : List Stm) (x : Stm) (h : l.length ≤ 4194303) : aappend Tryz.prog 63 13 (grT A l).2 (grT A l).1 [x.row] = some (grT A (l ++ [x])) := by
  have := agrow_append (P := Tryz.prog) (A := A) (ty := 63) (sz := 13) (rows := l.map Stm.row) (src := [x.row]) room_63_13 (by rw [Stm.row_eq]; rfl) (by simp; omega)
  rw [this]
  unfold grT
  rw [List.map_append]
  rfl
theorem stmFit {x : Stm} (h : x.Ok) : x.body.length ≤ 4194303 ∧ x.els.length ≤ 4194303 := by
  cases h; exact ⟨by assumption, by assumption⟩
theorem renS_eta (a b : Bytes) (x : Stm) : renS a b x = .mk x.op (renN a b x.name) x.max (renE a b x.a) (renE a b x.b) (renSs a b x.body) (renSs a b x.els) := by cases x; rfl
end Go.Proofs.YtjmghomnbmbjnaaGreat
set_option linter.all false
namespace Go.Proofs.YtjmghomnbmbjnaaGreat
open Go.Abs
attribute [local congr] ite_congr
set_option maxRecDepth 10000
set_option maxHeartbeats 2000000 in
theorem renameBody_of (a b : Bytes) (l : List Stm) (hlen : l.length ≤ 4194303) (hok : ∀ x ∈ l, x.Ok)
    (ih : ∀ x ∈ l, ∀ (m : List Stm), m = x.body ∨ m = x.els → ∀ (A : AHeap), acl C 38 [.d (.slice (m.map Stm.row)), .d (.str a), .d (.str b)] A = some (.d (.slice ((renSs a b m).map Stm.row)), A))
    (A : AHeap) : acl C 38 [.d (.slice (l.map Stm.row)), .d (.str a), .d (.str b)] A = some (.d (.slice ((renSs a b l).map Stm.row)), A) := by
  rw [k_call (c := C) (f := 38) rfl Tryz.func38 rfl (ok 38 (by kernel_rfl)) rfl Tryz.ntmps38 Tryz.results38 (by simp)]
  simp (maxSteps := 1000000) +contextual only [go_sem, acondK_bool, acB_merge, Nat.reduceLT, Nat.reduceLeDiff, Nat.reduceEqDiff, Nat.reduceAdd, Nat.reduceSub, Nat.reduceMul, Nat.reduceBEq, Nat.reduceBNe, Nat.reduceBneDiff, Nat.reduceBeqDiff, Int.reduceToNat, Int.reduceLE, Int.reduceLT, Int.reduceEq, Int.reduceNe, Int.reduceNeg, Int.reduceAdd, Int.reduceSub, ↓reduceIte, reduceCtorEq]
  refine loop_any (fun pre => [(7, .v (grT A (pre.map (renS a b))).1), (8, .v (.d (.int .i64 (pre.length : Nat)))), (2, .v (.d (.str b))), (1, .v (.d (.str a))), (0, .v (.d (.slice (l.map Stm.row))))])
    (fun pre => (grT A (pre.map (renS a b))).2) (fun _ _ => some (.d (.slice ((renSs a b l).map Stm.row)), A)) l rfl rfl rfl ?_
  intro pre suf hl ih2
  have hb : pre.length < 9223372036854775807 := by rw [hl] at hlen; simp at hlen; omega
  cases suf with
  | nil =>
    rw [List.append_nil] at hl
    subst hl
    have hf : afinR C 38 A (grT A (l.map (renS a b))).2 (some (grT A (l.map (renS a b))).1) = some (.d (.slice ((renSs a b l).map Stm.row)), A) := by
      rw [renSs_map]
      exact afin_grown rfl
    simp (maxSteps := 1000000) +contextual only [go_sem, acondK_bool, acB_merge, Nat.reduceLT, Nat.reduceLeDiff, Nat.reduceEqDiff, Nat.reduceAdd, Nat.reduceSub, Nat.reduceMul, Nat.reduceBEq, Nat.reduceBNe, Nat.reduceBneDiff, Nat.reduceBeqDiff, Int.reduceToNat, Int.reduceLE, Int.reduceLT, Int.reduceEq, Int.reduceNe, Int.reduceNeg, Int.reduceAdd, Int.reduceSub, ↓reduceIte, reduceCtorEq, hf]
  | cons x suf =>
    have hx : x ∈ l := by rw [hl]; simp
    have hxo := hok x hx
    obtain ⟨xa, xb, xl1, xl2, xo1, xo2⟩ := stmParts hxo
    have f1 := renameExprR a b x.a xa (grT A (pre.map (renS a b))).2
    have f2 := renameExprR a b x.b xb (grT A (pre.map (renS a b))).2
    have f3 := ih x hx x.body (.inl rfl) (grT A (pre.map (renS a b))).2
    have f4 := ih x hx x.els (.inr rfl) (grT A (pre.map (renS a b))).2
    have e2 := ih2 x suf rfl
    rw [List.length_append, List.length_cons, List.length_nil, List.map_append, List.map_cons, List.map_nil] at e2
    have e3 : (l.map Stm.row)[pre.length]? = some (Stm.row x) := by rw [hl]; exact map_mid
    have e4 : decide ((pre.length : Int) < (l.length : Int)) = true := by rw [hl]; simp; omega
    have e5 := grT_append A (pre.map (renS a b)) (renS a b x) (by rw [hl] at hlen; simp at hlen ⊢; omega)
    rw [Stm.row_eq] at e3 e5
    rw [renS_eta] at e5 e2
    simp only [Stm.op, Stm.name, Stm.max, Stm.a, Stm.b, Stm.body, Stm.els] at e5
    simp (maxSteps := 1000000) only [go_sem, acondK_bool, acB_merge, Nat.reduceLT, Nat.reduceLeDiff, Nat.reduceEqDiff, Nat.reduceAdd, Nat.reduceSub, Nat.reduceMul, Nat.reduceBEq, Nat.reduceBNe, Nat.reduceBneDiff, Nat.reduceBeqDiff, Int.reduceToNat, Int.reduceLE, Int.reduceLT, Int.reduceEq, Int.reduceNe, Int.reduceNeg, Int.reduceAdd, Int.reduceSub, ↓reduceIte, reduceCtorEq, e3, e4, k_drawn_t]
    simp (maxSteps := 1000000) only [go_sem, acondK_bool, acB_merge, Nat.reduceLT, Nat.reduceLeDiff, Nat.reduceEqDiff, Nat.reduceAdd, Nat.reduceSub, Nat.reduceMul, Nat.reduceBEq, Nat.reduceBNe, Nat.reduceBneDiff, Nat.reduceBeqDiff, Int.reduceToNat, Int.reduceLE, Int.reduceLT, Int.reduceEq, Int.reduceNe, Int.reduceNeg, Int.reduceAdd, Int.reduceSub, ↓reduceIte, reduceCtorEq, f1, f2, f3, f4]
    simp (maxSteps := 1000000) only [go_sem, acondK_bool, acB_merge, Nat.reduceLT, Nat.reduceLeDiff, Nat.reduceEqDiff, Nat.reduceAdd, Nat.reduceSub, Nat.reduceMul, Nat.reduceBEq, Nat.reduceBNe, Nat.reduceBneDiff, Nat.reduceBeqDiff, Int.reduceToNat, Int.reduceLE, Int.reduceLT, Int.reduceEq, Int.reduceNe, Int.reduceNeg, Int.reduceAdd, Int.reduceSub, ↓reduceIte, reduceCtorEq, e5, e2, wrap_nat hb]
theorem renameBody_in (a b : Bytes) : ∀ x : Stm, x.Ok → ∀ (l : List Stm), l = x.body ∨ l = x.els → ∀ (A : AHeap), acl C 38 [.d (.slice (l.map Stm.row)), .d (.str a), .d (.str b)] A = some (.d (.slice ((renSs a b l).map Stm.row)), A) := by
  intro x
  induction x using Stm.ind with
  | h op name max u v body els ihb ihe =>
    intro hok l hm A
    obtain ⟨f1, f2⟩ := stmFit hok
    rcases hm with rfl | rfl
    · exact renameBody_of a b _ f1 (Stm.Ok.bodyOk hok) (fun y hy => ihb y hy (Stm.Ok.bodyOk hok y hy)) A
    · exact renameBody_of a b _ f2 (Stm.Ok.elsOk hok) (fun y hy => ihe y hy (Stm.Ok.elsOk hok y hy)) A
theorem renameBody (a b : Bytes) (p : Pr) (hp : p.Ok) (A : AHeap) : acl C 38 [.d (.slice (p.body.map Stm.row)), .d (.str a), .d (.str b)] A = some (.d (.slice ((renSs a b p.body).map Stm.row)), A) :=
  renameBody_of a b p.body hp.bfit hp.body (fun x hx => renameBody_in a b x (hp.body x hx)) A
def menE (w : Bytes) : E → Bool
  | .mk op n s args => decide (op = 3) && (s == w) || menEs w args
where menEs (w : Bytes) : List E → Bool
  | [] => false
  | x :: l => menE w x || menEs w l
end Go.Proofs.YtjmghomnbmbjnaaGreat
set_option linter.all false
namespace Go.Proofs.YtjmghomnbmbjnaaGreat
open Go.Abs
attribute [local congr] ite_congr
set_option maxRecDepth 10000
theorem indexS (l : List Bytes) (hl : l.length ≤ 1099511627776) (w : Bytes) (A : AHeap) :
    acl C 46 [.d (.slice (l.map sRow)), .d (.str w)] A = some (.d (.int .i64 (idxF (fun s => w == s) l 0)), A) := by
  rw [k_call (c := C) (f := 46) rfl Tryz.func46 rfl (ok 46 (by kernel_rfl)) rfl Tryz.ntmps46 Tryz.results46 (by simp)]
  simp (maxSteps := 1000000) +contextual only [go_sem, acondK_bool, acB_merge, Nat.reduceLT, Nat.reduceLeDiff, Nat.reduceEqDiff, Nat.reduceAdd, Nat.reduceSub, Nat.reduceMul, Nat.reduceBEq, Nat.reduceBNe, Nat.reduceBneDiff, Nat.reduceBeqDiff, Int.reduceToNat, Int.reduceLE, Int.reduceLT, Int.reduceEq, Int.reduceNe, Int.reduceNeg, Int.reduceAdd, Int.reduceSub, ↓reduceIte, reduceCtorEq]
  refine loop_list (fun i => [(7, .v (.d (.int .i64 (l.length : Nat)))), (1, .v (.d (.str w))), (0, .v (.d (.slice (l.map sRow)))), (8, .v (.d (.int .i64 (i : Nat))))])
    (fun pre suf => some (.d (.int .i64 (idxF (fun s => w == s) suf pre.length)), A)) l rfl rfl ?_
  intro pre suf h ih
  have hb : pre.length < 9223372036854775807 := by rw [h] at hl; simp at hl; omega
  cases suf with
  | nil => rw [List.append_nil] at h; subst h; simp (maxSteps := 1000000) +contextual only [go_sem, acondK_bool, acB_merge, Nat.reduceLT, Nat.reduceLeDiff, Nat.reduceEqDiff, Nat.reduceAdd, Nat.reduceSub, Nat.reduceMul, Nat.reduceBEq, Nat.reduceBNe, Nat.reduceBneDiff, Nat.reduceBeqDiff, Int.reduceToNat, Int.reduceLE, Int.reduceLT, Int.reduceEq, Int.reduceNe, Int.reduceNeg, Int.reduceAdd, Int.reduceSub, ↓reduceIte, reduceCtorEq, idxF]
  | cons x suf =>
    have e2 := ih x suf rfl
    rw [List.length_append, List.length_cons, List.length_nil] at e2
    have e3 : (l.map sRow)[pre.length]? = some [.str x] := by rw [h]; exact map_mid
    have e4 : decide ((pre.length : Int) < (l.length : Int)) = true := by rw [h]; simp; omega
    simp (maxSteps := 1000000) +contextual only [go_sem, acondK_bool, acB_merge, Nat.reduceLT, Nat.reduceLeDiff, Nat.reduceEqDiff, Nat.reduceAdd, Nat.reduceSub, Nat.reduceMul, Nat.reduceBEq, Nat.reduceBNe, Nat.reduceBneDiff, Nat.reduceBeqDiff, Int.reduceToNat, Int.reduceLE, Int.reduceLT, Int.reduceEq, Int.reduceNe, Int.reduceNeg, Int.reduceAdd, Int.reduceSub, ↓reduceIte, reduceCtorEq, e3, e4, e2, wrap_nat hb, idxF]
def hasN (l : List Bytes) (w : Bytes) : Bool := l.any fun s => w == s
theorem containsS (l : List Bytes) (hl : l.length ≤ 1099511627776) (w : Bytes) (A : AHeap) : acl C 25 [.d (.slice (l.map sRow)), .d (.str w)] A = some (.d (.bool (hasN l w)), A) := by
  rw [k_call (c := C) (f := 25) rfl Tryz.func25 rfl (ok 25 (by kernel_rfl)) rfl Tryz.ntmps25 Tryz.results25 (by simp)]
  have e1 := indexS l hl w A
  simp (maxSteps := 1000000) +contextual only [go_sem, acondK_bool, acB_merge, Nat.reduceLT, Nat.reduceLeDiff, Nat.reduceEqDiff, Nat.reduceAdd, Nat.reduceSub, Nat.reduceMul, Nat.reduceBEq, Nat.reduceBNe, Nat.reduceBneDiff, Nat.reduceBeqDiff, Int.reduceToNat, Int.reduceLE, Int.reduceLT, Int.reduceEq, Int.reduceNe, Int.reduceNeg, Int.reduceAdd, Int.reduceSub, ↓reduceIte, reduceCtorEq, e1, idxF_nonneg, hasN]
def occF (w : Bytes) (t : Bool) (x : Stm) (_ : Int) : Bool := t || (decide (x.op = 2) && (x.name == w))
def occR (w : Bytes) (t : Bool) (e : E) : Bool := t || menE w e
end Go.Proofs.YtjmghomnbmbjnaaGreat
