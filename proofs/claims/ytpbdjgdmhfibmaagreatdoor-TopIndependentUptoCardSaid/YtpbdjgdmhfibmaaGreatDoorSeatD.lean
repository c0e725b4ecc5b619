/- The walk with a variable of the caller's: what it is afterwards. -/
import Derived.Test.YtpbdjgdmhfibmaaGreatDoorSeatC
import Derived.Test.YtpbdjgdmhfibmaaGreatDoorSeatA
set_option linter.all false
namespace Go.Proofs.YtpbdjgdmhfibmaaGreatDoor
open Go.Abs
attribute [local congr] ite_congr
set_option maxRecDepth 100000
theorem run_fold {σ : Type} (fs : σ → Stm → Int → σ) (fr : σ → E → σ) : ∀ (l : List Vis) (t : σ) (k : Nat), (run fs fr l (t, k)).1 = (l.take k).foldl (fun t v => step1 fs fr v t) t
 | [], t, k => by simp [run]
 | v :: l, t, k => by
   simp only [run]
   split
   ·rename_i h; subst h; rfl
   ·obtain ⟨j, rfl⟩ : ∃ j, k = j + 1 := ⟨k - 1, by omega⟩
    rw [Nat.add_sub_cancel, List.take_succ_cons, List.foldl_cons]
    exact run_fold fs fr l _ j
theorem afin_grownE {f : FuncId} (ho : C.own f = false) (A : AHeap) (e sz : Nat) (rows : List (List Dat)) (a b c : Dat) :
  afinR C f A (agrow A e sz rows).2 (some (.agg [.d a, .d b, .d c, (agrow A e sz rows).1])) = some (.agg [.d a, .d b, .d c, .d (.slice rows)], A) := by
 simp only [afinR, Option.map_some, afinish, ho, Bool.false_eq_true, if_false]
 unfold agrow
 by_cases h1 : rows = []
 ·subst h1
  simp only [if_true, acleanR, acleanV, acleans, aclean]
  rw [acut_same rfl]
 ·simp only [if_neg h1, acleanR, acleanV, acleans, aclean, arows]
  simp only [List.getElem?_append_right (Nat.le_refl _), Nat.sub_self, List.getElem?_cons_zero, if_true]
  unfold acut
  simp [AHeap.freeze, AV.noptr, AV.noptr2, AV.noptr1]
  rw [List.take_modify_front]
theorem cells_grow {A : AHeap} {e sz : Nat} {rows : List (List Dat)} : (agrow A e sz rows).1.cells = [(agrow A e sz rows).1] := by
 unfold agrow
 split <;> rfl
noncomputable abbrev grE (A : AHeap) (l : List E) : AV × AHeap := agrow A 62 4 (l.map E.row)
theorem grE_append (A : AHeap) (l : List E) (x : E) (h : l.length ≤ 4194303) : aappend Tryz.prog 62 4 (grE A l).2 (grE A l).1 [x.row] = some (grE A (l ++ [x])) := by
 have := agrow_append (P := Tryz.prog) (A := A) (ty := 62) (sz := 4) (rows := l.map E.row) (src := [x.row]) room_62_4 (by rw [E.row_eq]; rfl) (by simp; omega)
 rw [this]
 unfold grE
 rw [List.map_append]
 rfl
theorem copied : ∀ e, E.Ok e → ∀ (A : AHeap), acl C 184 [E.av e] A = some (E.av e, A) := by
 intro e
 induction e using E.ind with
 | h op n s args ih =>
   intro hok A
   have hlen := hok.fit
   rw [kC Tryz.func184 rfl Tryz.ntmps184 Tryz.results184]
   simp +contextual only [go_sem, acondK_bool]
   refine loop_any (fun pre => [(11, .v (.d (.int .i64 (pre.length : Nat)))), (1, .box [.d (.int .i64 op), .d (.int .i64 n), .d (.str s), (grE A pre).1]), (9, .v (.d (.slice (args.map E.row)))),
     (2, .box [.d (.int .i64 0), .d (.int .i64 0), .d (.str []), .nilS]), (10, .v (.d (.int .i64 (args.length : Nat))))])
    (fun pre => (grE A pre).2) (fun _ _ => some (E.av (.mk op n s args), A)) args rfl rfl rfl ?_
   intro pre suf hl ih2
   have hb : pre.length < 9223372036854775807 := by rw [hl] at hlen; simp at hlen; omega
   cases suf with
   | nil =>
     rw [List.append_nil] at hl
     subst hl
     have hf := afin_grownE (f := 184) rfl A 62 4 (args.map E.row) (.int .i64 op) (.int .i64 n) (.str s)
     simp +contextual only [go_sem, acondK_bool, one_grow, cells_grow, hf]
   | cons x suf =>
     have hx : x ∈ args := by rw [hl]; simp
     have e1 := ih x hx (hok.arg x hx) (grE A pre).2
     have e2 := ih2 x suf rfl
     rw [List.length_append, List.length_cons, List.length_nil] at e2
     have e3 : (args.map E.row)[pre.length]? = some (E.row x) := by rw [hl]; exact map_mid
     have e4 : decide ((pre.length : Int) < (args.length : Int)) = true := by rw [hl]; simp; omega
     have e5 := grE_append A pre x (by rw [hl] at hlen; simp at hlen; omega)
     rw [E.row_eq] at e3 e5
     simp +contextual only [go_sem, acondK_bool, e3, e4, e1, e5, one_grow, cells_grow, k_drawn_t]
     refine Eq.trans (ctE_ok (by repeat (first | exact MLe.nil | apply MLe.q | apply MLe.o | apply MLe.b | apply MLe.l)) (by kernel_rfl)) ?_
     simp +contextual only [go_sem, acondK_bool, e2, wrap_nat hb]
theorem grow_fst {A B : AHeap} {e sz : Nat} {rows : List (List Dat)} (h : A.bufs = B.bufs) : (agrow A e sz rows).1 = (agrow B e sz rows).1 := by
 unfold agrow
 rw [h]
 split <;> rfl
theorem grow_objs {A : AHeap} {e sz : Nat} {rows : List (List Dat)} : (agrow A e sz rows).2.objs = A.objs := by
 unfold agrow
 split <;> rfl
theorem grow_heap {A : AHeap} {e sz : Nat} {rows : List (List Dat)} {os : List AObj} : (⟨os, (agrow A e sz rows).2.bufs⟩ : AHeap) = (agrow ⟨os, A.bufs⟩ e sz rows).2 := by
 unfold agrow
 by_cases h : rows = [] <;> simp [h]
theorem usN_grow {A : AHeap} {e sz : Nat} {rows : List (List Dat)} : usN (some [(agrow A e sz rows).1]) = (false, false) := by
 unfold agrow
 split <;> rfl
theorem alen_grE {A A' : AHeap} {l : List E} : alen A' 2 (grE A l).1 = some l.length := by
 rw [alen_grow]; simp
theorem grow_snoc {A : AHeap} {e sz : Nat} {rows : List (List Dat)} {r : List Dat} : agrow A e sz (rows ++ [r]) = (.own A.bufs.length (rows.length + 1), ⟨A.objs, A.bufs ++ [⟨e, sz, rows ++ [r], 0⟩]⟩) := by
 unfold agrow
 rw [if_neg (by simp)]
 simp
theorem astore_grow {A : AHeap} {e sz : Nat} {rows : List (List Dat)} {r r' : List Dat} {vs : List AV} (hv : adatL vs = some r') (hr : r.length = r'.length) :
  astore (agrow A e sz (rows ++ [r])).2 vs (.eptr A.bufs.length (rows.length + 1) rows.length 0) = some (agrow A e sz (rows ++ [r'])).2 := by
 rw [grow_snoc, grow_snoc]
 have h1 := adats_L (A := ⟨A.objs, A.bufs ++ [⟨e, sz, rows ++ [r], 0⟩]⟩) hv
 simp [astore, h1, hr]
def zE : E := .mk 0 0 [] []
theorem grE_snoc (A : AHeap) (l : List E) (x : E) : grE A (l ++ [x]) = (.own A.bufs.length (l.length + 1), ⟨A.objs, A.bufs ++ [⟨62, 4, l.map E.row ++ [x.row], 0⟩]⟩) := by
 unfold grE
 rw [List.map_append, List.map_cons, List.map_nil, grow_snoc, List.length_map]
theorem grE_fst_ne (A : AHeap) (l : List E) : (grE A l).1 ≠ .own A.bufs.length (l.length + 1) := by
 unfold grE agrow
 split
 ·intro h; cases h
 ·intro h
  simp at h
theorem exprsStep (e : E) (hok : e.Ok) (l : List E) (hl : l.length ≤ 4194303) (A : AHeap) (w : AObj) :
  acl C 183 [E.av e, .ptr A.objs.length 0] ⟨A.objs ++ [.cells [(grE A l).1], w], (grE A l).2.bufs⟩ = some (.tuple [], ⟨A.objs ++ [.cells [(grE A (l ++ [e])).1], w], (grE A (l ++ [e])).2.bufs⟩) := by
 rw [kC Tryz.func183 rfl Tryz.ntmps183 Tryz.results183]
 have e1 := copied e hok
 have g1 : ∀ os m, (⟨os, (grE A m).2.bufs⟩ : AHeap) = (grE ⟨os, A.bufs⟩ m).2 := fun os m => grow_heap
 have g2 : ∀ os m, (grE A m).1 = (grE ⟨os, A.bufs⟩ m).1 := fun os m => grow_fst rfl
 have e5 := grE_append ⟨A.objs ++ [.cells [(grE A l).1], w], A.bufs⟩ l zE hl
 rw [← g2 (A.objs ++ [.cells [(grE A l).1], w]) l, ← g1, show zE.row = [.int .i64 0, .int .i64 0, .str [], .slice []] from rfl, grE_snoc] at e5
 have e6 : aindex 4 ⟨A.objs ++ [.cells [(grE A l).1], w], A.bufs ++ [⟨62, 4, l.map E.row ++ [zE.row], 0⟩]⟩ (l.length : Nat) (.own A.bufs.length (l.length + 1)) = some (.eptr A.bufs.length (l.length + 1) l.length 0) := by
  simp [aindex]
 have e7 : astore ⟨A.objs ++ [.cells [(grE A l).1], w], A.bufs ++ [⟨62, 4, l.map E.row ++ [zE.row], 0⟩]⟩ [.d (.int .i64 e.op), .d (.int .i64 e.n), .d (.str e.s), .d (.slice (e.args.map E.row))] (.eptr A.bufs.length (l.length + 1) l.length 0) =
   some ⟨A.objs ++ [.cells [(grE A l).1], w], A.bufs ++ [⟨62, 4, l.map E.row ++ [e.row], 0⟩]⟩ := by
  have h1 := astore_grow (A := ⟨A.objs ++ [.cells [(grE A l).1], w], A.bufs⟩) (e := 62) (sz := 4) (rows := l.map E.row) (r := zE.row) (r' := e.row)
   (vs := [.d (.int .i64 e.op), .d (.int .i64 e.n), .d (.str e.s), .d (.slice (e.args.map E.row))]) (by rw [E.row_eq]; rfl) (by rw [E.row_eq, E.row_eq]; rfl)
  rw [grow_snoc, grow_snoc, List.length_map] at h1
  exact h1
 have e8 : ∀ A0 A' : AHeap, A0 = ⟨A.objs ++ [.cells [(grE A l).1], w], (grE A l).2.bufs⟩ → A' = ⟨A.objs ++ [.cells [.own A.bufs.length (l.length + 1)], w], A.bufs ++ [⟨62, 4, l.map E.row ++ [e.row], 0⟩]⟩ → afinR C 183 A0 A' (some (.tuple [])) = some (.tuple [], A') := by
  intro A0 A' h1 h2
  refine afinR_loud rfl rfl ?_
  rw [h1, h2]
  intro hh
  have h9 := congrArg (fun l : List AObj => l[A.objs.length]?) hh
  simp [List.getElem?_take] at h9
  exact grE_fst_ne A l h9.symm
 rw [grE_snoc]
 have e9 := e8 _ _ rfl rfl
 simp +contextual only [go_sem, acondK_bool, k_drawn_t, e1, usN_grow, alen_grE, e5, e6, e7]
 refine Eq.trans (ctE_ok (by repeat (first | exact MLe.nil | apply MLe.qq | apply MLe.o | apply MLe.b | apply MLe.l)) (by kernel_rfl)) ?_
 simp +contextual only [go_sem, acondK_bool, e9]
def exF (t : List E) (e : E) : List E := t ++ [e]
noncomputable def wkX (A : AHeap) : Wk (List E) where
 w := A.objs.length + 1
 sfn := 182
 rfn := 183
 scap := []
 rcap := [.ptr A.objs.length 0]
 H := wkH 182 183 [] [.ptr A.objs.length 0] (fun t => A.objs ++ [.cells [(grE A t).1]]) (fun t => (grE A t).2.bufs)
 fs := fun t _ _ => t
 fr := exF
 Inv := fun t k => k ≤ 401 ∧ t.length + k ≤ 401
 le := fun _ _ h => h.1
 obj := wkH_obj fun _ => by simp
 set := wkH_set fun _ => by simp
 stmt := fun t k x d _ _ => noStmt x d _
 root := fun t k e he h => by
  have := exprsStep e he t (by have := h.2; omega) A (.cells [.d (.int .i64 ((k + 1 : Nat) : Int)), .func (.func 182) [] [], .func (.func 183) [] [.ptr A.objs.length 0]])
  unfold wkH exF
  simp only [List.append_assoc, List.cons_append, List.nil_append]
  exact this
 inv_s := fun t k _ _ h => ⟨by omega, by omega⟩
 inv_r := fun t k _ h => ⟨by omega, by simp [exF]; omega⟩
 inv_e := fun t k h => ⟨by omega, by omega⟩
def rootsV : List Vis → List E
 | [] => []
 | .e x true :: l => x :: rootsV l
 | .e _ false :: l => rootsV l
 | .s _ _ :: l => rootsV l
theorem roots_fold : ∀ (l : List Vis) (t : List E), l.foldl (fun t v => step1 (fun t _ _ => t) exF v t) t = t ++ rootsV l
 | [], t => by simp [rootsV]
 | .s x d :: l, t => by rw [List.foldl_cons]; exact roots_fold l t
 | .e x true :: l, t => by rw [List.foldl_cons]; exact (roots_fold l (t ++ [x])).trans (by simp [rootsV])
 | .e x false :: l, t => by rw [List.foldl_cons]; exact roots_fold l t
def exprsS (p : Pr) : List E := rootsV (visP p)
theorem walk_endG (A : AHeap) (t : List E) (w : AObj) (n : Int) : ∃ xs, afinR C 74 ⟨A.objs ++ [.cells [.nilS]], A.bufs⟩ ⟨A.objs ++ [.cells [(grE A t).1]] ++ [w], (grE A t).2.bufs⟩ (some (.d (.int .i64 n))) = some (.d (.int .i64 n), ⟨A.objs ++ (.cells [(grE A t).1] :: xs), (grE A t).2.bufs⟩) := by
 by_cases h : t = []
 ·subst h
  exact ⟨[], afinR_obj (c := C) (f := 74) (A0 := ⟨A.objs ++ [.cells [.nilS]], A.bufs⟩) (v := .d (.int .i64 n)) rfl rfl⟩
 ·refine ⟨[w], ?_⟩
  have := afinR_loud (c := C) (f := 74) (A0 := ⟨A.objs ++ [.cells [.nilS]], A.bufs⟩) (A := ⟨A.objs ++ [.cells [(grE A t).1]] ++ [w], (grE A t).2.bufs⟩) (v := .d (.int .i64 n)) rfl rfl (by
   intro hh
   have h9 := congrArg (fun l : List AObj => l[A.objs.length]?) hh
   simp [List.getElem?_take] at h9
   have h8 : (grE A t).1 = .nilS := h9
   unfold grE agrow at h8
   rw [if_neg (by simpa using h)] at h8
   cases h8)
  rw [this]
  simp [AV.clean3, AV.clean2, AV.clean1]
theorem afin_growX {f : FuncId} (ho : C.own f = false) (A : AHeap) (t : List E) (xs : List AObj) : afinR C f A ⟨A.objs ++ xs, (grE A t).2.bufs⟩ (some (grE A t).1) = some (.d (.slice (t.map E.row)), A) := by
 simp only [afinR, Option.map_some, afinish, ho, Bool.false_eq_true, if_false]
 unfold grE agrow
 by_cases h1 : t.map E.row = []
 ·simp only [h1, if_true, acleanR, acleanV, aclean]
  unfold acut
  simp [AV.noptr, AV.noptr2, AV.noptr1]
 ·simp only [if_neg h1, acleanR, acleanV, aclean, arows]
  simp only [List.getElem?_append_right (Nat.le_refl _), Nat.sub_self, List.getElem?_cons_zero, if_true]
  unfold acut
  simp [AHeap.freeze, AV.noptr, AV.noptr2, AV.noptr1]
  rw [List.take_modify_front]
theorem exprs (p : Pr) (hp : p.Ok) (A : AHeap) : acl C 159 [Pr.av p] A = some (.d (.slice ((exprsS p).map E.row)), A) := by
 rw [kC Tryz.func159 rfl Tryz.ntmps159 Tryz.results159]
 have e1 := (wkX A).walk p hp [] ⟨A.objs ++ [.cells [.nilS]], A.bufs⟩ (by simp [wkX]) ⟨Nat.le_refl _, by simp⟩ rfl
 have e2 : (run (wkX A).fs (wkX A).fr (visSs p.body 1) ([], 401)).1 = exprsS p := (run_fold _ _ _ _ _).trans ((roots_fold _ _).trans (List.nil_append _))
 rw [e2] at e1
 generalize (run (wkX A).fs (wkX A).fr (visSs p.body 1) ([], 401)).2 = k at e1
 obtain ⟨xs, e4⟩ := walk_endG A (exprsS p) (.cells [.d (.int .i64 (k : Nat)), .func (.func 182) [] [], .func (.func 183) [] [.ptr A.objs.length 0]]) (401 - (k : Int))
 have e5 := e1.trans e4
 change acl C 74 [Pr.av p, .func (.func 182) [] [], .func (.func 183) [] [.ptr A.objs.length 0]] _ = _ at e5
 have e6 := afin_growX (f := 159) rfl A (exprsS p) (.cells [(grE A (exprsS p)).1] :: xs)
 simp +contextual only [go_sem, acondK_bool, e5, e6]
theorem rootsV_len : ∀ (l : List Vis), (rootsV l).length ≤ l.length
 | [] => Nat.le_refl _
 | .s x d :: l => by have := rootsV_len l; simp [rootsV]; omega
 | .e x true :: l => by have := rootsV_len l; simp [rootsV]; omega
 | .e x false :: l => by have := rootsV_len l; simp [rootsV]; omega
def sRow (s : Bytes) : List Dat := [.str s]
noncomputable abbrev grS (A : AHeap) (l : List Bytes) : AV × AHeap := agrow A 9 1 (l.map sRow)
theorem grS_append (A : AHeap) (l : List Bytes) (x : Bytes) (h : l.length ≤ 4194303) : aappend Tryz.prog 9 1 (grS A l).2 (grS A l).1 [[.str x]] = some (grS A (l ++ [x])) := by
 have := agrow_append (P := Tryz.prog) (A := A) (ty := 9) (sz := 1) (rows := l.map sRow) (src := [[.str x]]) room_9_1 (by rfl) (by simp; omega)
 rw [this]
 unfold grS
 rw [List.map_append]
 rfl
theorem grS_snoc (A : AHeap) (l : List Bytes) (x : Bytes) : grS A (l ++ [x]) = (.own A.bufs.length (l.length + 1), ⟨A.objs, A.bufs ++ [⟨9, 1, l.map sRow ++ [sRow x], 0⟩]⟩) := by
 unfold grS
 rw [List.map_append, List.map_cons, List.map_nil, grow_snoc, List.length_map]
theorem grS_fst_ne (A : AHeap) (l : List Bytes) : (grS A l).1 ≠ .own A.bufs.length (l.length + 1) := by
 unfold grS agrow
 split
 ·intro h; cases h
 ·intro h
  simp at h
def nameF (t : List Bytes) (x : Stm) (_ : Int) : List Bytes := if (decide (x.op = 1) || decide (x.op = 6)) = true then t ++ [x.name] else t
theorem namesStep (x : Stm) (d : Int) (l : List Bytes) (hl : l.length ≤ 4194303) (A : AHeap) (w : AObj) :
  acl C 75 [Stm.av x, .d (.int .i64 d), .ptr A.objs.length 0] ⟨A.objs ++ [.cells [(grS A l).1], w], (grS A l).2.bufs⟩ = some (.tuple [], ⟨A.objs ++ [.cells [(grS A (nameF l x d)).1], w], (grS A (nameF l x d)).2.bufs⟩) := by
 rw [kC Tryz.func75 rfl Tryz.ntmps75 Tryz.results75]
 have g1 : ∀ os m, (⟨os, (grS A m).2.bufs⟩ : AHeap) = (grS ⟨os, A.bufs⟩ m).2 := fun os m => grow_heap
 have g2 : ∀ os m, (grS A m).1 = (grS ⟨os, A.bufs⟩ m).1 := fun os m => grow_fst rfl
 have e5 := grS_append ⟨A.objs ++ [.cells [(grS A l).1], w], A.bufs⟩ l x.name hl
 rw [← g2 (A.objs ++ [.cells [(grS A l).1], w]) l, ← g1, grS_snoc] at e5
 have e8 : ∀ A0 A' : AHeap, A0 = ⟨A.objs ++ [.cells [(grS A l).1], w], (grS A l).2.bufs⟩ → A' = ⟨A.objs ++ [.cells [.own A.bufs.length (l.length + 1)], w], A.bufs ++ [⟨9, 1, l.map sRow ++ [sRow x.name], 0⟩]⟩ → afinR C 75 A0 A' (some (.tuple [])) = some (.tuple [], A') := by
  intro A0 A' h1 h2
  refine afinR_loud rfl rfl ?_
  rw [h1, h2]
  intro hh
  have h9 := congrArg (fun l : List AObj => l[A.objs.length]?) hh
  simp [List.getElem?_take] at h9
  exact grS_fst_ne A l h9.symm
 have e9 := e8 _ _ rfl rfl
 unfold nameF
 cases h1 : decide (x.op = 1) || decide (x.op = 6) with
 | false => simp +contextual only [go_sem, acondK_bool, h1]
 | true =>
   simp only [if_true]
   rw [grS_snoc]
   simp +contextual only [go_sem, acondK_bool, h1, e5, e9]
def namesV : List Vis → List Bytes
 | [] => []
 | .s x _ :: l => if (decide (x.op = 1) || decide (x.op = 6)) = true then x.name :: namesV l else namesV l
 | .e _ _ :: l => namesV l
theorem namesV_len : ∀ (l : List Vis), (namesV l).length ≤ l.length
 | [] => Nat.le_refl _
 | .s x d :: l => by
   have := namesV_len l
   simp only [namesV, List.length_cons]
   split
   ·simp; omega
   ·omega
 | .e x r :: l => by have := namesV_len l; simp [namesV]; omega
theorem names_fold : ∀ (l : List Vis) (t : List Bytes), l.foldl (fun t v => step1 nameF (fun t _ => t) v t) t = t ++ namesV l
 | [], t => by simp [namesV]
 | .s x d :: l, t => by
   rw [List.foldl_cons]
   refine (names_fold l _).trans ?_
   simp only [step1, nameF, namesV]
   split
   ·simp
   ·rfl
 | .e x true :: l, t => by rw [List.foldl_cons]; exact names_fold l t
 | .e x false :: l, t => by rw [List.foldl_cons]; exact names_fold l t
def paramNames (p : Pr) : List Bytes := p.params.map Pm.name
def namesS (p : Pr) : List Bytes := paramNames p ++ namesV (visP p)
noncomputable def wkN (A : AHeap) (n : Nat) (hn : n ≤ 4000000) : Wk (List Bytes) where
 w := A.objs.length + 1
 sfn := 75
 rfn := 76
 scap := [.ptr A.objs.length 0]
 rcap := []
 H := wkH 75 76 [.ptr A.objs.length 0] [] (fun t => A.objs ++ [.cells [(grS A t).1]]) (fun t => (grS A t).2.bufs)
 fs := nameF
 fr := fun t _ => t
 Inv := fun t k => k ≤ 401 ∧ t.length + k ≤ 401 + n
 le := fun _ _ h => h.1
 obj := wkH_obj fun _ => by simp
 set := wkH_set fun _ => by simp
 stmt := fun t k x d hx h => by
  have := namesStep x d t (by have := h.2; omega) A (.cells [.d (.int .i64 (k : Nat)), .func (.func 75) [] [.ptr A.objs.length 0], .func (.func 76) [] []])
  unfold wkH
  simp only [List.append_assoc, List.cons_append, List.nil_append]
  exact this
 root := fun t k e _ _ => noRoot e _
 inv_s := fun t k x _ h => ⟨by omega, by
  have := h.2
  unfold nameF
  split
  ·rw [List.length_append, List.length_cons, List.length_nil]; omega
  ·omega⟩
 inv_r := fun t k _ h => ⟨by omega, by have := h.2; omega⟩
 inv_e := fun t k h => ⟨by omega, by omega⟩
theorem grS_ne (A : AHeap) {ns t : List Bytes} (h : ns.length < t.length) : (grS A t).1 ≠ (grS A ns).1 := by
 have ht : t.map sRow ≠ [] := by intro e; rw [List.map_eq_nil_iff] at e; subst e; simp at h
 unfold grS agrow
 rw [if_neg ht]
 split
 ·intro e; cases e
 ·intro e; simp at e; omega
theorem walk_endS (A : AHeap) (ns t : List Bytes) (h : t = ns ∨ ns.length < t.length) (w : AObj) (n : Int) :
  ∃ xs, afinR C 74 ⟨A.objs ++ [.cells [(grS A ns).1]], (grS A ns).2.bufs⟩ ⟨A.objs ++ [.cells [(grS A t).1]] ++ [w], (grS A t).2.bufs⟩ (some (.d (.int .i64 n))) = some (.d (.int .i64 n), ⟨A.objs ++ (.cells [(grS A t).1] :: xs), (grS A t).2.bufs⟩) := by
 rcases h with h | h
 ·subst h
  exact ⟨[], afinR_obj (c := C) (f := 74) (A0 := ⟨A.objs ++ [.cells [(grS A t).1]], (grS A t).2.bufs⟩) (v := .d (.int .i64 n)) rfl rfl⟩
 ·refine ⟨[w], ?_⟩
  have := afinR_loud (c := C) (f := 74) (A0 := ⟨A.objs ++ [.cells [(grS A ns).1]], (grS A ns).2.bufs⟩) (A := ⟨A.objs ++ [.cells [(grS A t).1]] ++ [w], (grS A t).2.bufs⟩) (v := .d (.int .i64 n)) rfl rfl (by
   intro hh
   have h9 := congrArg (fun l : List AObj => l[A.objs.length]?) hh
   simp [List.getElem?_take] at h9
   exact grS_ne A h h9)
  rw [this]
  simp [AV.clean3, AV.clean2, AV.clean1]
theorem afin_growY {f : FuncId} (ho : C.own f = false) (A : AHeap) (e sz : Nat) (rows : List (List Dat)) (xs : List AObj) : afinR C f A ⟨A.objs ++ xs, (agrow A e sz rows).2.bufs⟩ (some (agrow A e sz rows).1) = some (.d (.slice rows), A) := by
 simp only [afinR, Option.map_some, afinish, ho, Bool.false_eq_true, if_false]
 unfold agrow
 by_cases h1 : rows = []
 ·simp only [h1, if_true, acleanR, acleanV, aclean]
  unfold acut
  simp [AV.noptr, AV.noptr2, AV.noptr1]
 ·simp only [if_neg h1, acleanR, acleanV, aclean, arows]
  simp only [List.getElem?_append_right (Nat.le_refl _), Nat.sub_self, List.getElem?_cons_zero, if_true]
  unfold acut
  simp [AHeap.freeze, AV.noptr, AV.noptr2, AV.noptr1]
  rw [List.take_modify_front]
theorem names (p : Pr) (hp : p.Ok) (hn : p.params.length ≤ 4000000) (A : AHeap) : acl C 35 [Pr.av p] A = some (.d (.slice ((namesS p).map sRow)), A) := by
 rw [kC Tryz.func35 rfl Tryz.ntmps35 Tryz.results35]
 simp +contextual only [go_sem, acondK_bool]
 refine loop_any (fun pre => [(9, .v (.d (.int .i64 (pre.length : Nat)))), (3, .v (.ptr A.objs.length 0)), (7, .v (.d (.slice (p.params.map Pm.row)))), (1, .box [.d (.str p.name), .d (.slice (p.params.map Pm.row)), .d (.slice (p.body.map Stm.row))]), (8, .v (.d (.int .i64 (p.params.length : Nat))))])
  (fun pre => ⟨A.objs ++ [.cells [(grS A (pre.map Pm.name)).1]], (grS A (pre.map Pm.name)).2.bufs⟩) (fun _ _ => some (.d (.slice ((namesS p).map sRow)), A)) p.params rfl rfl rfl ?_
 intro pre suf h ih
 have hb : pre.length < 9223372036854775807 := by rw [h] at hn; simp at hn; omega
 cases suf with
 | nil =>
   rw [List.append_nil] at h
   subst h
   have e1 := (wkN A p.params.length hn).walk p hp (p.params.map Pm.name) ⟨A.objs ++ [.cells [(grS A (p.params.map Pm.name)).1]], (grS A (p.params.map Pm.name)).2.bufs⟩ (by simp [wkN]) ⟨Nat.le_refl _, by simp; omega⟩ rfl
   have e2 : (run (wkN A p.params.length hn).fs (wkN A p.params.length hn).fr (visSs p.body 1) (p.params.map Pm.name, 401)).1 = namesS p := (run_fold _ _ _ _ _).trans (names_fold _ _)
   rw [e2] at e1
   generalize (run (wkN A p.params.length hn).fs (wkN A p.params.length hn).fr (visSs p.body 1) (p.params.map Pm.name, 401)).2 = k at e1
   obtain ⟨xs, e4⟩ := walk_endS A (p.params.map Pm.name) (namesS p) (by
    unfold namesS paramNames
    by_cases h0 : namesV (visP p) = []
    ·left; rw [h0, List.append_nil]
    ·right
     have := List.length_pos_iff.2 h0
     rw [List.length_append]
     omega) (.cells [.d (.int .i64 (k : Nat)), .func (.func 75) [] [.ptr A.objs.length 0], .func (.func 76) [] []]) (401 - (k : Int))
   have e5 := e1.trans e4
   change acl C 74 [Pr.av p, .func (.func 75) [] [.ptr A.objs.length 0], .func (.func 76) [] []] _ = _ at e5
   have e6 := afin_growY (f := 35) rfl A 9 1 ((namesS p).map sRow) (.cells [(grS A (namesS p)).1] :: xs)
   simp +contextual only [go_sem, acondK_bool, e5, e6]
 | cons x suf =>
   have e2 := ih x suf rfl
   rw [List.length_append, List.length_cons, List.length_nil, List.map_append, List.map_cons, List.map_nil, grS_snoc, List.length_map] at e2
   have e3 : (p.params.map Pm.row)[pre.length]? = some [.str x.name, .int .i64 x.type] := by rw [h]; exact map_mid
   have e4 : decide ((pre.length : Int) < (p.params.length : Int)) = true := by rw [h]; simp; omega
   have g1 : ∀ os m, (⟨os, (grS A m).2.bufs⟩ : AHeap) = (grS ⟨os, A.bufs⟩ m).2 := fun os m => grow_heap
   have g2 : ∀ os m, (grS A m).1 = (grS ⟨os, A.bufs⟩ m).1 := fun os m => grow_fst rfl
   have e5 := grS_append ⟨A.objs ++ [.cells [(grS A (pre.map Pm.name)).1]], A.bufs⟩ (pre.map Pm.name) x.name (by rw [h] at hn; simp at hn ⊢; omega)
   rw [← g2 (A.objs ++ [AObj.cells [(grS A (pre.map Pm.name)).1]]) (pre.map Pm.name), ← g1, grS_snoc] at e5
   simp +contextual only [go_sem, acondK_bool, e3, e4, e5, e2, wrap_nat hb]
theorem exprsS_len (p : Pr) : (exprsS p).length ≤ 401 := Nat.le_trans (rootsV_len _) (visP_len p)
theorem namesS_len (p : Pr) (h : p.params.length ≤ 40) : (namesS p).length ≤ 441 := by
 unfold namesS paramNames
 have := namesV_len (visP p)
 have := visP_len p
 simp
 omega
def menE (w : Bytes) : E → Bool
 | .mk op n s args => decide (op = 3) && (s == w) || menEs w args
where menEs (w : Bytes) : List E → Bool
 | [] => false
 | x :: l => menE w x || menEs w l
end Go.Proofs.YtpbdjgdmhfibmaaGreatDoor
namespace Go.Proofs.YtpbdjgdmhfibmaaGreatDoor
open Go.Abs
theorem errV_zero : ∀ (l : List Vis), errV l = 0 ↔ ∀ x d, Vis.s x d ∈ l → stmtS x d = 0
 | [] => by simp [errV]
 | .s y k :: l => by
   simp only [errV]
   by_cases h : stmtS y k = 0
   ·rw [if_pos h, errV_zero l]
    constructor
    ·intro hh x d hm
     rcases List.mem_cons.1 hm with hm | hm
     ·injection hm with h1 h2; subst h1; subst h2; exact h
     ·exact hh x d hm
    ·intro hh x d hm; exact hh x d (List.mem_cons_of_mem _ hm)
   ·rw [if_neg h]
    constructor
    ·intro h'; exact absurd h' h
    ·intro hh; exact absurd (hh y k (List.mem_cons_self ..)) h
 | .e y r :: l => by
   simp only [errV]
   rw [errV_zero l]
   constructor
   ·intro hh x d hm
    rcases List.mem_cons.1 hm with hm | hm
    ·cases hm
    ·exact hh x d hm
   ·intro hh x d hm; exact hh x d (List.mem_cons_of_mem _ hm)
structure Vld (p : Pr) : Prop where
 name : isName p.name = true
 prm : prmS p.params = 0
 stm : ∀ x d, Vis.s x d ∈ visSs p.body 1 → stmtS x d = 0
 len : (visSs p.body 1).length ≤ 400
theorem Vld.vis {p : Pr} (h : Vld p) : visP p = visSs p.body 1 := by
 unfold visP
 rw [List.take_of_length_le]
 have := h.len
 omega
theorem valS_zero (p : Pr) : valS p = 0 ↔ Vld p := by
 unfold valS
 constructor
 ·intro h
  split at h
  ·cases h
  rename_i h1
  split at h
  ·rename_i h2
   split at h
   ·rename_i h3
    split at h
    ·cases h
    ·rename_i h4
     have h5 : (visP p).length ≤ 400 := by simp at h4; omega
     have h6 : (visSs p.body 1).length ≤ 400 := by
      unfold visP at h5; rw [List.length_take] at h5; omega
     have h7 : visP p = visSs p.body 1 := by unfold visP; rw [List.take_of_length_le]; omega
     rw [h7] at h3
     exact ⟨by simpa using h1, h2, (errV_zero _).1 h3, h6⟩
   ·rename_i h3; exact absurd h h3
  ·rename_i h2; exact absurd h h2
 ·intro h
  have h7 := h.vis
  rw [if_neg (by simp [h.name]), if_pos h.prm, h7, if_pos ((errV_zero _).2 h.stm), if_neg]
  have := h.len
  simp
  omega
theorem chkE_zero (op n : Int) (s : Bytes) (args : List E) (d : Int) : chkE (.mk op n s args) d = 0 ↔ nodeS op n s args.length d = 0 ∧ chkL args (IntKind.i64.wrap (d + 1)) = 0 := by
 rw [chkE]
 by_cases h : nodeS op n s args.length d = 0
 ·rw [if_pos h]; exact ⟨fun h' => ⟨h, h'⟩, fun h' => h'.2⟩
 ·rw [if_neg h]; exact ⟨fun h' => absurd h' h, fun h' => h'.1⟩
theorem chkL_cons (x : E) (l : List E) (d : Int) : chkL (x :: l) d = 0 ↔ chkE x d = 0 ∧ chkL l d = 0 := by
 rw [chkL]
 by_cases h : chkE x d = 0
 ·rw [if_pos h]; exact ⟨fun h' => ⟨h, h'⟩, fun h' => h'.2⟩
 ·rw [if_neg h]; exact ⟨fun h' => absurd h' h, fun h' => h'.1⟩
theorem isName_len {s : Bytes} (h : isName s = true) : 1 ≤ s.length ∧ s.length ≤ 16 := by
 unfold isName at h
 split at h
 ·cases h
 ·simp at h
  have := h.1.1.1
  simp
  omega
theorem nodeS_zero {op n d : Int} {s : Bytes} {len : Nat} (h : nodeS op n s len d = 0) : s.length ≤ 64 ∧ 0 ≤ ar op ∧ (len : Int) = ar op ∧ d ≤ 12 ∧ (op = 3 → isName s = true) := by
 unfold nodeS at h
 split at h
 ·cases h
 rename_i h1
 split at h
 ·cases h
 rename_i h2
 split at h
 ·cases h
 rename_i h3
 split at h
 ·cases h
 rename_i h4
 simp at h1 h2 h3
 refine ⟨?_, by omega, h3.2, by omega, fun ho => h2 ho⟩
 by_cases ho3 : op = 3
 ·have := isName_len (h2 ho3); omega
 ·by_cases ho2 : op = 2
  ·have hp := h3.1.2 ho2
   unfold plainS at hp
   simp at hp
   omega
  ·have := h1.2 ho2 ho3
   subst this
   simp
mutual
theorem noRootE : ∀ (e : E) (x : E), ¬ Vis.e x true ∈ visE e false
 | .mk op n s args, x, h => by
   simp only [visE, List.mem_cons] at h
   rcases h with h | h
   ·injection h with _ h2; cases h2
   ·exact noRootEs args x h
theorem noRootEs : ∀ (l : List E) (x : E), ¬ Vis.e x true ∈ visEs l
 | [], x, h => by simp [visEs] at h
 | y :: l, x, h => by
   simp only [visEs, List.mem_append] at h
   rcases h with h | h
   ·exact noRootE y x h
   ·exact noRootEs l x h
end
theorem rootE {e x : E} (h : Vis.e x true ∈ visE e true) : x = e := by
 cases e
 simp only [visE, List.mem_cons] at h
 rcases h with h | h
 ·injection h
 ·exact absurd h (noRootEs _ _)
def RootOf (l : List Vis) (e : E) : Prop := ∃ y k, Vis.s y k ∈ l ∧ ((e = y.a ∧ absE y.a = false) ∨ (e = y.b ∧ absE y.b = false)) ∧ (visE e true).length ≤ l.length
theorem RootOf.mono {l m : List Vis} {e : E} (h : RootOf l e) (hs : ∀ v ∈ l, v ∈ m) (hl : l.length ≤ m.length) : RootOf m e := by
 obtain ⟨y, k, h1, h2, h3⟩ := h
 exact ⟨y, k, hs _ h1, h2, by omega⟩
mutual
theorem rootS : ∀ (s : Stm) (d : Int) (e : E), Vis.e e true ∈ visS s d → RootOf (visS s d) e
 | .mk op name max a b body els, d, e, h => by
   simp only [visS, List.mem_cons, List.mem_append] at h
   rcases h with h | h | h | h | h
   ·cases h
   ·by_cases ha : absE a = true
    ·rw [if_pos ha] at h; simp at h
    ·rw [if_neg ha] at h
     have := rootE h
     subst this
     refine ⟨_, d, List.mem_cons_self .., .inl ⟨rfl, by simpa using ha⟩, ?_⟩
     simp [visS, ha]
     omega
   ·by_cases hb : absE b = true
    ·rw [if_pos hb] at h; simp at h
    ·rw [if_neg hb] at h
     have := rootE h
     subst this
     refine ⟨_, d, List.mem_cons_self .., .inr ⟨rfl, by simpa using hb⟩, ?_⟩
     simp [visS, hb]
     omega
   ·refine (rootSs body _ e h).mono (fun v hv => ?_) ?_
    ·simp only [visS, List.mem_cons, List.mem_append]; exact .inr (.inr (.inr (.inl hv)))
    ·simp [visS]; omega
   ·refine (rootSs els _ e h).mono (fun v hv => ?_) ?_
    ·simp only [visS, List.mem_cons, List.mem_append]; exact .inr (.inr (.inr (.inr hv)))
    ·simp [visS]; omega
theorem rootSs : ∀ (l : List Stm) (d : Int) (e : E), Vis.e e true ∈ visSs l d → RootOf (visSs l d) e
 | [], _, _, h => by simp [visSs] at h
 | y :: l, d, e, h => by
   simp only [visSs, List.mem_append] at h
   rcases h with h | h
   ·refine (rootS y d e h).mono (fun v hv => ?_) ?_
    ·simp only [visSs, List.mem_append]; exact .inl hv
    ·simp [visSs]
   ·refine (rootSs l d e h).mono (fun v hv => ?_) ?_
    ·simp only [visSs, List.mem_append]; exact .inr hv
    ·simp [visSs]
end
theorem mem_rootsV : ∀ (l : List Vis) (e : E), e ∈ rootsV l ↔ Vis.e e true ∈ l
 | [], e => by simp [rootsV]
 | .s y k :: l, e => by rw [rootsV, mem_rootsV l e]; simp
 | .e y true :: l, e => by rw [rootsV, List.mem_cons, mem_rootsV l e]; simp
 | .e y false :: l, e => by rw [rootsV, mem_rootsV l e]; simp
structure StmOk (x : Stm) (d : Int) : Prop where
 op : 1 ≤ x.op ∧ x.op ≤ 8
 name : uN x.op = true → isName x.name = true
 nname : uN x.op = false → x.name = []
 a : uA x.op = true → chkE x.a 1 = 0
 na : uA x.op = false → absE x.a = true
 b : uB x.op = true → chkE x.b 1 = 0
 nb : uB x.op = false → absE x.b = true
 nbody : uBo x.op = false → x.body = []
 nels : uO x.op = false → x.els = []
 dep : d ≤ 12
theorem stmtS_zero {x : Stm} {d : Int} (h : stmtS x d = 0) : StmOk x d := by
 unfold stmtS at h
 split at h
 ·cases h
 rename_i h1
 split at h
 ·cases h
 rename_i h2
 split at h
 ·rename_i h3
  simp at h3
  exact absurd h h3.2
 rename_i h3
 split at h
 ·rename_i h4
  simp at h4
  exact absurd h h4.2
 rename_i h4
 split at h
 ·cases h
 rename_i h5
 simp only [Bool.or_eq_true, Bool.not_eq_true', Bool.and_eq_false_iff, not_or, Bool.not_eq_false, Bool.not_eq_true] at h1
 simp only [badF, kn, Bool.and_eq_true, Bool.not_eq_true', Bool.or_eq_false_iff, Bool.and_eq_false_iff, decide_eq_true_eq, not_or] at h1 h2 h3 h4
 simp at h1 h2 h3 h4
 obtain ⟨hk, ⟨⟨⟨⟨⟨⟨b1, b2⟩, b3⟩, b4⟩, b5⟩, b6⟩, hm⟩⟩ := h1
 refine ⟨hk, h2, fun hu => ?_, h3, fun hu => ?_, h4, fun hu => ?_, fun hu => ?_, fun hu => ?_, by omega⟩
 ·rcases b1 with b | b
  ·rw [hu] at b; cases b
  ·exact b
 ·rcases b2 with b | b
  ·rw [hu] at b; cases b
  ·exact b
 ·rcases b3 with b | b
  ·rw [hu] at b; cases b
  ·exact b
 ·rcases b5 with b | b
  ·rw [hu] at b; cases b
  ·exact b
 ·rcases b6 with b | b
  ·rw [hu] at b; cases b
  ·exact b
theorem Vld.roots {p : Pr} (h : Vld p) : ∀ e ∈ exprsS p, chkE e 1 = 0 ∧ (visE e true).length ≤ 400 := by
 intro e he
 unfold exprsS at he
 rw [h.vis, mem_rootsV] at he
 obtain ⟨y, k, h1, h2, h3⟩ := rootSs _ _ _ he
 have hs := stmtS_zero (h.stm y k h1)
 refine ⟨?_, by have := h.len; omega⟩
 rcases h2 with ⟨rfl, h2⟩ | ⟨rfl, h2⟩
 ·cases hu : uA y.op with
  | true => exact hs.a hu
  | false => rw [hs.na hu] at h2; cases h2
 ·cases hu : uB y.op with
  | true => exact hs.b hu
  | false => rw [hs.nb hu] at h2; cases h2
attribute [local congr] ite_congr
set_option maxRecDepth 100000
theorem indexS (l : List Bytes) (hl : l.length ≤ 1099511627776) (w : Bytes) (A : AHeap) :
  acl C 138 [.d (.slice (l.map sRow)), .d (.str w)] A = some (.d (.int .i64 (idxF (fun s => w == s) l 0)), A) := by
 rw [kC Tryz.func138 rfl Tryz.ntmps138 Tryz.results138]
 simp +contextual only [go_sem, acondK_bool]
 refine loop_list (fun i => [(7, .v (.d (.int .i64 (l.length : Nat)))), (1, .v (.d (.str w))), (0, .v (.d (.slice (l.map sRow)))), (8, .v (.d (.int .i64 (i : Nat))))])
  (fun pre suf => some (.d (.int .i64 (idxF (fun s => w == s) suf pre.length)), A)) l rfl rfl ?_
 intro pre suf h ih
 have hb : pre.length < 9223372036854775807 := by rw [h] at hl; simp at hl; omega
 cases suf with
 | nil => rw [List.append_nil] at h; subst h; simp +contextual only [go_sem, acondK_bool, idxF]
 | cons x suf =>
   have e2 := ih x suf rfl
   rw [List.length_append, List.length_cons, List.length_nil] at e2
   have e3 : (l.map sRow)[pre.length]? = some [.str x] := by rw [h]; exact map_mid
   have e4 : decide ((pre.length : Int) < (l.length : Int)) = true := by rw [h]; simp; omega
   simp +contextual only [go_sem, acondK_bool, e3, e4, e2, wrap_nat hb, idxF]
def hasN (l : List Bytes) (w : Bytes) : Bool := l.any fun s => w == s
theorem containsS (l : List Bytes) (hl : l.length ≤ 1099511627776) (w : Bytes) (A : AHeap) : acl C 97 [.d (.slice (l.map sRow)), .d (.str w)] A = some (.d (.bool (hasN l w)), A) := by
 rw [kC Tryz.func97 rfl Tryz.ntmps97 Tryz.results97]
 have e1 := indexS l hl w A
 simp +contextual only [go_sem, acondK_bool, e1, idxF_nonneg, hasN]
structure Kv where
 key : Bytes
 v : Vl
def Kv.row (x : Kv) : List Dat := [.str x.key, .int .i64 x.v.kind, .int .i64 x.v.n, .str x.v.s]
def zeroV : Vl := ⟨0, 0, []⟩
def getS : List Kv → Bytes → Vl
 | [], _ => zeroV
 | p :: l, k => if (p.key == k) = true then p.v else getS l k
theorem stGetP (l : List Kv) (k : Bytes) (A : AHeap) (hl : l.length ≤ 1099511627776) : acl C 213 [.d (.slice (l.map Kv.row)), .d (.str k)] A = some ((getS l k).av, A) := by
 rw [kC Tryz.func213 rfl Tryz.ntmps213 Tryz.results213]
 simp only [go_sem, acondK_bool]
 refine loop_list (fun n => [(8, .v (.d (.int .i64 (l.length : Nat)))), (7, .v (.d (.slice (l.map Kv.row)))), (1, .v (.d (.str k))), (9, .v (.d (.int .i64 (n : Int)))), (4, .box [.d (.int .i64 0), .d (.int .i64 0), .d (.str [])])]) (fun pre suf => some ((getS suf k).av, A)) l rfl rfl ?_
 intro pre suf h ih
 subst h
 have hb : pre.length < 9223372036854775807 := by simp at hl; omega
 cases suf with
 | nil => simp only [go_sem, acondK_bool, getS, Vl.av, zeroV]
 | cons x suf =>
   have ih1 := ih x suf rfl
   simp only [List.length_append, List.length_cons, List.length_nil, Nat.zero_add] at ih1
   cases hx : x.key == k with
   | true => simp only [go_sem, acondK_bool, ih1, wrap_nat hb, hx, getS, Kv.row, Vl.av]
   | false => simp only [go_sem, acondK_bool, ih1, wrap_nat hb, hx, getS, Kv.row, Vl.av]
structure Mc where
 state : List Kv
 fa : Bool
 fr : List Bytes
 fw : List Bytes
 vars : List (Bytes × Vl)
 own : List (Bytes × Vl)
 out : List Vl
 reads : List Bytes
 writes : List Bytes
 steps : Int
structure Ids where
 m : Nat
 v : Nat
 o : Nat
def mapE (l : List (Bytes × Vl)) : List (Dat × AV) := l.map fun p => (.str p.1, p.2.av)
def mcell (x : Ids) (ov rv wv : AV) (m : Mc) : List AV :=
 [.d (.slice (m.state.map Kv.row)), .d (.bool m.fa), .d (.slice (srow m.fr)), .d (.slice (srow m.fw)), .mapr x.v, .mapr x.o, .d (.int .i64 0), .d (.int .i64 0), ov, rv, wv, .nilS, .d (.str []), .d (.int .i64 m.steps)]
def ownS (bs : List ABuf) (v : AV) (e sz : Nat) (rows : List (List Dat)) : Prop := (v = .nilS ∧ rows = []) ∨ ∃ tok, v = .own tok rows.length ∧ bs[tok]? = some ⟨e, sz, rows, 0⟩
def tokF (v w : AV) : Prop := ∀ t n t' n', v = .own t n → w = .own t' n' → t ≠ t'
structure HM (A : AHeap) (x : Ids) (ov rv wv : AV) (m : Mc) : Prop where
 cell : A.objs[x.m]? = some (.cells (mcell x ov rv wv m))
 vars : A.objs[x.v]? = some (.map (mapE m.vars))
 own : A.objs[x.o]? = some (.map (mapE m.own))
 out : ownS A.bufs ov 69 3 (m.out.map Vl.row)
 rd : ownS A.bufs rv 9 1 (srow m.reads)
 wr : ownS A.bufs wv 9 1 (srow m.writes)
 d1 : tokF ov rv
 d2 : tokF ov wv
 d3 : tokF rv wv
 n1 : x.m ≠ x.v
 n2 : x.m ≠ x.o
 n3 : x.v ≠ x.o
def HS (A : AHeap) (x : Ids) (m : Mc) : Prop := ∃ ov rv wv, HM A x ov rv wv m
def used (A : AHeap) (x : Ids) (t : Nat) : Prop := ∃ cs, A.objs[x.m]? = some (.cells cs) ∧ ∃ n, .own t n ∈ cs
structure Keep (A A' : AHeap) (x : Ids) : Prop where
 objs : ∀ i, i < A.objs.length → i ≠ x.m → i ≠ x.v → i ≠ x.o → A'.objs[i]? = A.objs[i]?
 len : A.objs.length ≤ A'.objs.length
 blen : A.bufs.length ≤ A'.bufs.length
 bufs : ∀ t b, A.bufs[t]? = some b → ¬ used A x t → A'.bufs[t]? = some b ∧ ¬ used A' x t
theorem Keep.refl (A : AHeap) (x : Ids) : Keep A A x := ⟨fun _ _ _ _ _ => rfl, Nat.le_refl _, Nat.le_refl _, fun _ _ h hn => ⟨h, hn⟩⟩
theorem Keep.trans {A B D : AHeap} {x : Ids} (h : Keep A B x) (k : Keep B D x) : Keep A D x :=
 ⟨fun i hi h1 h2 h3 => by rw [k.objs i (Nat.lt_of_lt_of_le hi h.len) h1 h2 h3, h.objs i hi h1 h2 h3], Nat.le_trans h.len k.len, Nat.le_trans h.blen k.blen, fun t b hb hn => by
  obtain ⟨a, c⟩ := h.bufs t b hb hn
  exact k.bufs t b a c⟩
theorem HM.tok {A : AHeap} {x : Ids} {ov rv wv : AV} {m : Mc} (h : HM A x ov rv wv m) {t n : Nat} (hm : .own t n ∈ mcell x ov rv wv m) : t < A.bufs.length := by
 have key : ∀ {v : AV} {e sz : Nat} {rows : List (List Dat)}, ownS A.bufs v e sz rows → .own t n = v → t < A.bufs.length := by
  intro v e sz rows h1 h2
  rcases h1 with ⟨rfl, _⟩ | ⟨tok, rfl, hb⟩
  ·cases h2
  ·cases h2; exact (List.getElem?_eq_some_iff.1 hb).1
 simp only [mcell, List.mem_cons, reduceCtorEq, false_or, or_false, List.not_mem_nil] at hm
 rcases hm with h1 | h1 | h1
 ·exact key h.out h1
 ·exact key h.rd h1
 ·exact key h.wr h1
theorem HS.lt {A : AHeap} {x : Ids} {m : Mc} (h : HS A x m) : x.m < A.objs.length ∧ x.v < A.objs.length ∧ x.o < A.objs.length := by
 obtain ⟨ov, rv, wv, h⟩ := h
 exact ⟨(List.getElem?_eq_some_iff.1 h.cell).1, (List.getElem?_eq_some_iff.1 h.vars).1, (List.getElem?_eq_some_iff.1 h.own).1⟩
theorem HS.tok {A : AHeap} {x : Ids} {m : Mc} (h : HS A x m) {t : Nat} (hu : used A x t) : t < A.bufs.length := by
 obtain ⟨ov, rv, wv, h⟩ := h
 obtain ⟨cs, hc, n, hn⟩ := hu
 rw [h.cell] at hc
 cases hc
 exact h.tok hn
theorem keep_take {A B : AHeap} {x : Ids} {m m0 : Mc} (hA : HS A x m0) (hB : HS B x m) (hk : Keep A B x) (hu : ∀ t, used B x t → t < A.bufs.length) :
  HS ⟨B.objs.take A.objs.length, B.bufs.take A.bufs.length⟩ x m ∧ Keep A ⟨B.objs.take A.objs.length, B.bufs.take A.bufs.length⟩ x := by
 obtain ⟨l1, l2, l3⟩ := hA.lt
 have us : ∀ t, used ⟨B.objs.take A.objs.length, B.bufs.take A.bufs.length⟩ x t → used B x t := by
  rintro t ⟨cs, hc, n, hn⟩
  refine ⟨cs, ?_, n, hn⟩
  simpa [List.getElem?_take, l1] using hc
 refine ⟨?_, ⟨fun i hi h1 h2 h3 => ?_, ?_, by have := hk.blen; simp; omega, fun t b hb hn => ?_⟩⟩
 ·obtain ⟨ov, rv, wv, h⟩ := hB
  have key : ∀ {v : AV} {e sz : Nat} {rows : List (List Dat)}, (∀ t n, v = .own t n → .own t n ∈ mcell x ov rv wv m) → ownS B.bufs v e sz rows → ownS (B.bufs.take A.bufs.length) v e sz rows := by
   intro v e sz rows hm h1
   rcases h1 with ⟨h1, h2⟩ | ⟨tok, h1, hb⟩
   ·exact .inl ⟨h1, h2⟩
   ·refine .inr ⟨tok, h1, ?_⟩
    have := hu tok ⟨_, h.cell, _, hm _ _ h1⟩
    simpa [List.getElem?_take, this] using hb
  refine ⟨ov, rv, wv, ⟨?_, ?_, ?_, key (fun t n e => ?_) h.out, key (fun t n e => ?_) h.rd, key (fun t n e => ?_) h.wr, h.d1, h.d2, h.d3, h.n1, h.n2, h.n3⟩⟩
  ·simpa [List.getElem?_take, l1] using h.cell
  ·simpa [List.getElem?_take, l2] using h.vars
  ·simpa [List.getElem?_take, l3] using h.own
  all_goals simp [mcell, e]
 ·have := hk.objs i hi h1 h2 h3
  simpa [List.getElem?_take, hi] using this
 ·have := hk.len
  simp; omega
 ·obtain ⟨h1, h2⟩ := hk.bufs t b hb hn
  have lt := (List.getElem?_eq_some_iff.1 hb).1
  refine ⟨?_, fun hu' => h2 (us t hu')⟩
  simpa [List.getElem?_take, lt] using h1
noncomputable def finH (f : FuncId) (A : AHeap) (v : AV) (B : AHeap) : AHeap := (afinish C f A v B).2
def nice (v : AV) : Prop := v.still3 = true ∧ v.clean3 = v ∧ v.noptr = true
theorem fin_eq {f : FuncId} {A B : AHeap} {v : AV} (hv : nice v) : afinish C f A v B = (v, finH f A v B) := by
 obtain ⟨h1, h2, h3⟩ := hv
 have e1 : ∀ B, (acut A v B).1 = v := by
  intro B; unfold acut; split
  ·first | rfl | rw [if_pos h3]
  ·rfl
 have e2 : (afinish C f A v B).1 = v := by
  unfold afinish
  split
  ·unfold acutO
   split
   ·exact e1 _
   ·split <;> rfl
  ·rw [acleanR_still h1, h2]; exact e1 _
 exact Prod.ext e2 rfl
theorem finR {f : FuncId} {A B : AHeap} {v : AV} (hv : nice v) : afinR C f A B (some v) = some (v, finH f A v B) := by
 simp only [afinR, Option.map_some, fin_eq hv]
theorem post_fin {f nt : Nat} {rs : List ResultVar} {A B : AHeap} {R : PR} {v : AV} (hv : nice v) : (⟨⟨C, f, nt, rs, A⟩, px, R⟩ : PF).post v B ↔ R v (finH f A v B) := by
 unfold PF.post
 simp only [fin_eq hv]
theorem keep_fin {f : FuncId} {A B : AHeap} {x : Ids} {m m0 : Mc} {v : AV} (hv : nice v) (hA : HS A x m0) (hB : HS B x m) (hk : Keep A B x) : HS (finH f A v B) x m ∧ Keep A (finH f A v B) x := by
 obtain ⟨h1, h2, h3⟩ := hv
 obtain ⟨l1, l2, l3⟩ := hA.lt
 have same : B.objs.take A.objs.length = A.objs → HS ⟨A.objs, B.bufs.take A.bufs.length⟩ x m ∧ Keep A ⟨A.objs, B.bufs.take A.bufs.length⟩ x := by
  intro e
  have := keep_take hA hB hk (fun t ht => hA.tok (by
   obtain ⟨cs, hc, n, hn⟩ := ht
   refine ⟨cs, ?_, n, hn⟩
   rw [← e]
   simpa [List.getElem?_take, l1] using hc))
  rwa [e] at this
 have c1 : HS (acut A v B).2 x m ∧ Keep A (acut A v B).2 x := by
  unfold acut
  split
  ·rename_i e
   exact same e
  ·exact ⟨hB, hk⟩
 unfold finH afinish
 split
 ·unfold acutO
  split
  ·exact c1
  ·split
   ·rename_i e
    refine keep_take hA hB hk (fun t ht => ?_)
    obtain ⟨cs, hc, n, hn⟩ := ht
    have hm : AObj.cells cs ∈ B.objs.take A.objs.length := List.mem_of_getElem? (i := x.m) (by simpa [List.getElem?_take, l1] using hc)
    have := List.all_eq_true.1 e.2 _ hm
    simp only [AObj.under] at this
    have := List.all_eq_true.1 this _ hn
    simpa [AV.under] using this
   ·exact ⟨hB, hk⟩
 ·rw [acleanR_still h1, h2]; exact c1
theorem HM.upd {A : AHeap} {x : Ids} {ov rv wv ov' rv' wv' : AV} {m m' : Mc} {bs : List ABuf} (h : HM A x ov rv wv m) (e1 : m'.vars = m.vars) (e2 : m'.own = m.own)
  (h1 : ownS bs ov' 69 3 (m'.out.map Vl.row)) (h2 : ownS bs rv' 9 1 (srow m'.reads)) (h3 : ownS bs wv' 9 1 (srow m'.writes)) (d1 : tokF ov' rv') (d2 : tokF ov' wv') (d3 : tokF rv' wv') :
  HM ⟨A.objs.set x.m (.cells (mcell x ov' rv' wv' m')), bs⟩ x ov' rv' wv' m' := by
 have l := (List.getElem?_eq_some_iff.1 h.cell).1
 refine ⟨?_, ?_, ?_, h1, h2, h3, d1, d2, d3, h.n1, h.n2, h.n3⟩
 ·simp [l]
 ·rw [e1]; simpa [List.getElem?_set, h.n1] using h.vars
 ·rw [e2]; simpa [List.getElem?_set, h.n2] using h.own
theorem HM.keep {A : AHeap} {x : Ids} {ov rv wv : AV} {m : Mc} {cs' : List AV} {bs : List ABuf} (h : HM A x ov rv wv m)
  (hb : ∀ t b, A.bufs[t]? = some b → (∀ n, .own t n ∉ mcell x ov rv wv m) → bs[t]? = some b) (ht : ∀ t n, .own t n ∈ cs' → (∃ n', .own t n' ∈ mcell x ov rv wv m) ∨ A.bufs.length ≤ t) (hbl : A.bufs.length ≤ bs.length) :
  Keep A ⟨A.objs.set x.m (.cells cs'), bs⟩ x := by
 have l := (List.getElem?_eq_some_iff.1 h.cell).1
 refine ⟨fun i hi h1 h2 h3 => ?_, by simp, hbl, fun t b hb' hn => ?_⟩
 ·simp [List.getElem?_set, Ne.symm h1]
 ·have nm : ∀ n, .own t n ∉ mcell x ov rv wv m := fun n hm => hn ⟨_, h.cell, n, hm⟩
  refine ⟨hb t b hb' nm, ?_⟩
  rintro ⟨cs, hc, n, hm⟩
  simp [l] at hc
  subst hc
  rcases ht t n hm with ⟨n', hn'⟩ | hle
  ·exact nm n' hn'
  ·have := (List.getElem?_eq_some_iff.1 hb').1
   omega
inductive Rs where
 | ok (v : AV) (m : Mc)
 | stop (s : Stp) (m : Mc)
def Does (f : FuncId) (args : List AV) (A : AHeap) (x : Ids) : Rs → Prop
 | .ok v m => ∃ A', acl C f args A = some (v, A') ∧ HS A' x m ∧ Keep A A' x
 | .stop s m => ∃ A', HS A' x m ∧ Keep A A' x ∧ ∀ R : PR, R s.av A' → pcl C px f args A R
def tickS (m : Mc) : Rs := if decide (16384 < IntKind.i64.wrap (m.steps + 1)) = true then .stop (abt 1008) { m with steps := IntKind.i64.wrap (m.steps + 1) } else .ok (.tuple []) { m with steps := IntKind.i64.wrap (m.steps + 1) }
theorem tickP {A : AHeap} {x : Ids} {m : Mc} (h : HS A x m) : Does 88 [.ptr x.m 0] A x (tickS m) := by
 have hS := h
 obtain ⟨ov, rv, wv, h⟩ := h
 have hc := h.cell
 have l := hS.lt.1
 have hB : HS ⟨A.objs.set x.m (.cells (mcell x ov rv wv { m with steps := IntKind.i64.wrap (m.steps + 1) })), A.bufs⟩ x { m with steps := IntKind.i64.wrap (m.steps + 1) } :=
  ⟨ov, rv, wv, h.upd rfl rfl h.out h.rd h.wr h.d1 h.d2 h.d3⟩
 have hk : Keep A ⟨A.objs.set x.m (.cells (mcell x ov rv wv { m with steps := IntKind.i64.wrap (m.steps + 1) })), A.bufs⟩ x :=
  h.keep (fun t b hb _ => hb) (fun t n hm => .inl ⟨n, by simpa [mcell] using hm⟩) (Nat.le_refl _)
 have gs (o : AObj) : (A.objs.set x.m o)[x.m]? = some o := by simp [l]
 unfold tickS
 unfold mcell at hc hB hk
 cases h1 : decide (16384 < IntKind.i64.wrap (m.steps + 1)) with
 | true =>
   obtain ⟨k1, k2⟩ := keep_fin (f := 88) (v := (abt 1008).av) ⟨rfl, rfl, rfl⟩ hS hB hk
   refine ⟨_, k1, k2, fun R hR => ?_⟩
   refine pC Tryz.func88 rfl Tryz.ntmps88 Tryz.results88 ?_
   simp only [go_sem, acondK_bool, hc, h1, gs]
   exact abortP ((post_fin ⟨rfl, rfl, rfl⟩).2 hR)
 | false =>
   obtain ⟨k1, k2⟩ := keep_fin (f := 88) (v := .tuple []) ⟨rfl, rfl, rfl⟩ hS hB hk
   refine ⟨_, ?_, k1, k2⟩
   have e := finR (f := 88) (A := A) (B := ⟨A.objs.set x.m (.cells (mcell x ov rv wv { m with steps := IntKind.i64.wrap (m.steps + 1) })), A.bufs⟩) (v := .tuple []) ⟨rfl, rfl, rfl⟩
   unfold mcell at e
   rw [kC Tryz.func88 rfl Tryz.ntmps88 Tryz.results88]
   simp only [go_sem, acondK_bool, hc, h1, gs, e]
theorem srow_nil {l : List Bytes} (h : srow l = []) : l = [] := by simpa [srow] using h
theorem srow_len (l : List Bytes) : (srow l).length = l.length := by simp [srow]
theorem withS_nil (k : Bytes) : withS [] k = [k] := by simp [withS, sIn, bsR]
theorem withS_len (l : List Bytes) (k : Bytes) : (withS l k).length ≤ l.length + 1 := by
 unfold withS
 split
 ·omega
 ·have := bsR_le l k 0 l.length (by omega)
  simp; omega
theorem ownS.app {bs : List ABuf} {v : AV} {e sz : Nat} {rows : List (List Dat)} (h : ownS bs v e sz rows) (b : List ABuf) : ownS (bs ++ b) v e sz rows := by
 rcases h with h | ⟨tok, h1, h2⟩
 ·exact .inl h
 ·exact .inr ⟨tok, h1, by rw [List.getElem?_append_left (List.getElem?_eq_some_iff.1 h2).1, h2]⟩
theorem ownS.set {bs : List ABuf} {v : AV} {e sz tok n : Nat} {b : ABuf} {rows : List (List Dat)} (h : ownS bs v e sz rows) (hd : tokF v (.own tok n)) : ownS (bs.set tok b) v e sz rows := by
 rcases h with h | ⟨t, h1, h2⟩
 ·exact .inl h
 ·exact .inr ⟨t, h1, by rw [List.getElem?_set_ne (Ne.symm (hd _ _ _ _ h1 rfl)), h2]⟩
theorem ownS.lt {bs : List ABuf} {v : AV} {e sz t n : Nat} {rows : List (List Dat)} (h : ownS bs v e sz rows) (he : v = .own t n) : t < bs.length := by
 rcases h with ⟨h, _⟩ | ⟨tok, h1, h2⟩
 ·rw [h] at he; cases he
 ·rw [h1] at he; cases he; exact (List.getElem?_eq_some_iff.1 h2).1
theorem tokF.symm {v w : AV} (h : tokF v w) : tokF w v := fun t n t' n' a b => Ne.symm (h _ _ _ _ b a)
theorem tokF_new {bs : List ABuf} {v : AV} {e sz n : Nat} {rows : List (List Dat)} (h : ownS bs v e sz rows) : tokF v (.own bs.length n) := by
 intro t n t' n' h1 h2
 cases h2
 have := h.lt h1
 omega
theorem tokF.len {v : AV} {t n n' : Nat} (h : tokF v (.own t n)) : tokF v (.own t n') := by
 intro a b c d h1 h2
 cases h2
 exact h _ _ _ _ h1 rfl
theorem ownS_with {A : AHeap} {v : AV} {l : List Bytes} (h : ownS A.bufs v 9 1 (srow l)) (k : Bytes) (hl : l.length ≤ 1099511627776) :
  ∃ v' bs, acl C 170 [v, .d (.str k)] A = some (v', ⟨A.objs, bs⟩) ∧ ownS bs v' 9 1 (srow (withS l k)) ∧
    (∀ w e sz rows, ownS A.bufs w e sz rows → tokF w v → ownS bs w e sz rows ∧ tokF w v') ∧
    (∀ t b, A.bufs[t]? = some b → (∀ n, v ≠ .own t n) → bs[t]? = some b) ∧ (∀ t n, v' = .own t n → (∃ n', v = .own t n') ∨ A.bufs.length ≤ t) ∧ A.bufs.length ≤ bs.length ∧ (v'.cells = [v'] ∧ allOne [v'] = true) := by
 rcases h with ⟨rfl, h⟩ | ⟨tok, rfl, hb⟩
 ·have := srow_nil h
  subst this
  refine ⟨_, _, with0 k, ?_, fun w e sz rows hw _ => ⟨hw.app _, tokF_new hw⟩, fun t b hb _ => ?_, fun t n he => ?_, by simp, rfl, rfl⟩
  ·rw [withS_nil]
   exact .inr ⟨A.bufs.length, rfl, by simp⟩
  ·rw [List.getElem?_append_left (List.getElem?_eq_some_iff.1 hb).1, hb]
  ·cases he; exact .inr (Nat.le_refl _)
 ·have lt := (List.getElem?_eq_some_iff.1 hb).1
  have w1 := with1 k hb hl
  rw [srow_len]
  refine ⟨_, _, w1, ?_, fun w e sz rows hw hd => ⟨hw.set hd, hd.len⟩, fun t b hb' hn => ?_, fun t n he => ?_, by simp, rfl, rfl⟩
  ·exact .inr ⟨tok, by rw [srow_len], by simp [lt]⟩
  ·have : tok ≠ t := fun he => hn l.length (by rw [he])
   rw [List.getElem?_set_ne this, hb']
  ·cases he; exact .inl ⟨_, rfl⟩
theorem HM.putR {A : AHeap} {x : Ids} {ov rv wv : AV} {m : Mc} (h : HM A x ov rv wv m) (k : Bytes) (hl : m.reads.length ≤ 1099511627776) :
  ∃ v' bs, acl C 170 [rv, .d (.str k)] A = some (v', ⟨A.objs, bs⟩) ∧ HM ⟨A.objs.set x.m (.cells (mcell x ov v' wv { m with reads := withS m.reads k })), bs⟩ x ov v' wv { m with reads := withS m.reads k } ∧
    Keep A ⟨A.objs.set x.m (.cells (mcell x ov v' wv { m with reads := withS m.reads k })), bs⟩ x ∧ (v'.cells = [v'] ∧ allOne [v'] = true) := by
 obtain ⟨v', bs, h1, h2, h3, h4, h5, hbl, h6⟩ := ownS_with h.rd k hl
 obtain ⟨o1, d1⟩ := h3 _ _ _ _ h.out h.d1
 obtain ⟨o2, d2⟩ := h3 _ _ _ _ h.wr h.d3.symm
 refine ⟨v', bs, h1, h.upd rfl rfl o1 h2 o2 d1 h.d2 d2.symm, h.keep (fun t b hb hn => h4 t b hb (fun n he => hn n (by simp [mcell, he]))) (fun t n hm => ?_) hbl, h6⟩
 simp only [mcell, List.mem_cons, reduceCtorEq, false_or, or_false, List.not_mem_nil] at hm
 rcases hm with hm | hm | hm
 ·exact .inl ⟨n, by simp [mcell, hm]⟩
 ·rcases h5 t n hm.symm with ⟨n', hn'⟩ | hle
  ·exact .inl ⟨n', by simp [mcell, hn']⟩
  ·exact .inr hle
 ·exact .inl ⟨n, by simp [mcell, hm]⟩
theorem HM.putW {A : AHeap} {x : Ids} {ov rv wv : AV} {m : Mc} (h : HM A x ov rv wv m) (k : Bytes) (hl : m.writes.length ≤ 1099511627776) :
  ∃ v' bs, acl C 170 [wv, .d (.str k)] A = some (v', ⟨A.objs, bs⟩) ∧ HM ⟨A.objs.set x.m (.cells (mcell x ov rv v' { m with writes := withS m.writes k })), bs⟩ x ov rv v' { m with writes := withS m.writes k } ∧
    Keep A ⟨A.objs.set x.m (.cells (mcell x ov rv v' { m with writes := withS m.writes k })), bs⟩ x ∧ (v'.cells = [v'] ∧ allOne [v'] = true) := by
 obtain ⟨v', bs, h1, h2, h3, h4, h5, hbl, h6⟩ := ownS_with h.wr k hl
 obtain ⟨o1, d1⟩ := h3 _ _ _ _ h.out h.d2
 obtain ⟨o2, d2⟩ := h3 _ _ _ _ h.rd h.d3
 refine ⟨v', bs, h1, h.upd rfl rfl o1 o2 h2 h.d1 d1 d2, h.keep (fun t b hb hn => h4 t b hb (fun n he => hn n (by simp [mcell, he]))) (fun t n hm => ?_) hbl, h6⟩
 simp only [mcell, List.mem_cons, reduceCtorEq, false_or, or_false, List.not_mem_nil] at hm
 rcases hm with hm | hm | hm
 ·exact .inl ⟨n, by simp [mcell, hm]⟩
 ·exact .inl ⟨n, by simp [mcell, hm]⟩
 ·rcases h5 t n hm.symm with ⟨n', hn'⟩ | hle
  ·exact .inl ⟨n', by simp [mcell, hn']⟩
  ·exact .inr hle
def lookE : List (Bytes × Vl) → Bytes → Option Vl
 | [], _ => none
 | p :: l, k => if k == p.1 then some p.2 else lookE l k
theorem afind_mapE (k : Bytes) : ∀ l, afind 2 (.str k) (mapE l) = some ((lookE l k).map Vl.av)
 | [] => rfl
 | p :: l => by
   have ih := afind_mapE k l
   simp only [mapE, List.map_cons, afind, aeqK, Option.bind_some, lookE]
   cases h : k == p.1 with
   | true => simp
   | false => simpa [mapE] using ih
def fetchS (m : Mc) (k : Bytes) : Rs :=
 if keyV k = true then (match lookE m.own k with
  | some v => .ok v.av m
  | none => if (!m.fa && !hasN m.fr k) = true then .stop (rst k) m else .ok (getS m.state k).av { m with reads := withS m.reads k })
 else .stop (abt 1004) m
theorem nice_v (v : Vl) : nice v.av := ⟨rfl, rfl, rfl⟩
theorem nice_s (s : Stp) : nice s.av := ⟨rfl, rfl, rfl⟩
theorem nice_t : nice (.tuple []) := ⟨rfl, rfl, rfl⟩
theorem fetchP {A : AHeap} {x : Ids} {m : Mc} (h : HS A x m) (k : Bytes) (hk : k.length ≤ 1099511627776) (hr : m.reads.length ≤ 1099511627776) (hs : m.state.length ≤ 1099511627776) (hf : m.fr.length ≤ 1099511627776) :
  Does 192 [.ptr x.m 0, .d (.str k)] A x (fetchS m k) := by
 have hS := h
 obtain ⟨ov, rv, wv, h⟩ := h
 have hc := h.cell
 have hown := h.own
 have l := hS.lt.1
 have kv := keyVP k A hk
 have fo := afind_mapE k m.own
 unfold fetchS
 cases h1 : keyV k with
 | false =>
   obtain ⟨k1, k2⟩ := keep_fin (f := 192) (v := (abt 1004).av) (nice_s _) hS hS (Keep.refl A x)
   refine ⟨_, k1, k2, fun R hR => ?_⟩
   rw [h1] at kv
   refine pC Tryz.func192 rfl Tryz.ntmps192 Tryz.results192 ?_
   simp only [go_sem, acondK_bool, kv]
   exact abortP ((post_fin (nice_s _)).2 hR)
 | true =>
 rw [h1] at kv
 simp only [if_true]
 unfold mcell at hc
 cases h2 : lookE m.own k with
 | some v =>
   rw [h2] at fo
   simp only [Option.map_some, Vl.av] at fo
   obtain ⟨k1, k2⟩ := keep_fin (f := 192) (v := v.av) (nice_v _) hS hS (Keep.refl A x)
   refine ⟨_, ?_, k1, k2⟩
   have e := finR (f := 192) (A := A) (B := A) (nice_v v)
   simp only [Vl.av] at e
   rw [kC Tryz.func192 rfl Tryz.ntmps192 Tryz.results192]
   simp only [go_sem, acondK_bool, kv, hc, hown, fo, e, Vl.av]
 | none =>
 rw [h2] at fo
 simp only [Option.map_none] at fo
 have ct := containsS m.fr hf k A
 have ct' : acl C 97 [.d (.slice (srow m.fr)), .d (.str k)] A = some (.d (.bool (hasN m.fr k)), A) := ct
 have go : (!m.fa && !hasN m.fr k) = false → Does 192 [.ptr x.m 0, .d (.str k)] A x (.ok (getS m.state k).av { m with reads := withS m.reads k }) := by
  intro hg
  obtain ⟨rv', bs, w1, w2, w3, w4, w5⟩ := h.putR k hr
  have hB : HS _ x { m with reads := withS m.reads k } := ⟨_, _, _, w2⟩
  obtain ⟨k1, k2⟩ := keep_fin (f := 192) (v := (getS m.state k).av) (nice_v _) hS hB w3
  refine ⟨_, ?_, k1, k2⟩
  have e := finR (f := 192) (A := A) (B := ⟨A.objs.set x.m (.cells (mcell x ov rv' wv { m with reads := withS m.reads k })), bs⟩) (nice_v (getS m.state k))
  have g := stGetP m.state k ⟨A.objs.set x.m (.cells (mcell x ov rv' wv { m with reads := withS m.reads k })), bs⟩ hs
  have gs (o : AObj) : (A.objs.set x.m o)[x.m]? = some o := by simp [l]
  unfold mcell at e g
  simp only [Vl.av] at e g
  cases hfa : m.fa with
  | true =>
    rw [hfa] at hc e g
    rw [kC Tryz.func192 rfl Tryz.ntmps192 Tryz.results192]
    simp only [go_sem, acondK_bool, kv, hc, hown, fo, w1, w4, w5, gs, g, e, Vl.av, mcell]
  | false =>
    rw [hfa] at hc e g hg
    have hn : hasN m.fr k = true := by simpa using hg
    rw [hn] at ct'
    rw [kC Tryz.func192 rfl Tryz.ntmps192 Tryz.results192]
    simp only [go_sem, acondK_bool, kv, hc, hown, fo, w1, w4, w5, gs, g, e, Vl.av, mcell, ct']
 cases hg : (!m.fa && !hasN m.fr k) with
 | false => simpa [hg] using go hg
 | true =>
   simp only [if_true]
   obtain ⟨k1, k2⟩ := keep_fin (f := 192) (v := (rst k).av) (nice_s _) hS hS (Keep.refl A x)
   refine ⟨_, k1, k2, fun R hR => ?_⟩
   have hfa : m.fa = false := by cases hq : m.fa <;> simp_all
   have hn : hasN m.fr k = false := by cases hq : hasN m.fr k <;> simp_all
   rw [hfa] at hc
   rw [hn] at ct'
   refine pC Tryz.func192 rfl Tryz.ntmps192 Tryz.results192 ?_
   simp only [go_sem, acondK_bool, kv, hc, hown, fo, ct']
   exact restartP ((post_fin (nice_s _)).2 hR)
end Go.Proofs.YtpbdjgdmhfibmaaGreatDoor
