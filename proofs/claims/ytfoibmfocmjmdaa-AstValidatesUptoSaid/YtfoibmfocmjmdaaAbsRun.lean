/- More rules by which the abstract machine is run symbolically: variables, drawn regions, results, slices. -/
import Derived.Test.YtfoibmfocmjmdaaAbsRules
set_option linter.unusedVariables false
set_option linter.unusedSimpArgs false
set_option linter.all false
set_option linter.deprecated false
namespace Go.Abs

section
variable {c : ACtx} {call : FuncId → AFun} {f nt : Nat} {env e : AEnv} {A A0 A' : AHeap} {rs : List ResultVar} {F : AF} {ks : List KF}
variable {d s t u i n off id : Nat} {x y z : Operand} {v w : AV} {ty : TypeId} {pos : String} {after : Array Edge} {g : Option (Nat × Bool)}

/-! ### variables -/
def alayS (nt d : Nat) (s : Slot) (env : AEnv) (A : AHeap) : Option (AEnv × AHeap) := if d < nt then some ((d, s) :: env, A) else none
@[go_sem] theorem alayS_lt {s : Slot} (h : d < nt) : alayS nt d s env A = some ((d, s) :: env, A) := by simp [alayS, h]
def anewB (esc : Bool) (nt d : Nat) (cs : List AV) (env : AEnv) (A : AHeap) : Option (AEnv × AHeap) :=
  if esc then alayS nt d (.v (.ptr A.objs.length 0)) env { A with objs := A.objs ++ [.cells cs] } else if noPlaceOf d env then alayS nt d (.box cs) env A else none
def anewV (esc : Bool) (nt d : Nat) (v : Option AV) (env : AEnv) (A : AHeap) : Option (AEnv × AHeap) := v.bind fun v => anewB esc nt d v.cells env A
theorem anew_eq (esc : Bool) (cs : List AV) : ((if esc = true then some (some (d, Slot.v (.ptr A.objs.length 0)), ({ A with objs := A.objs ++ [AObj.cells cs] } : AHeap))
        else if noPlaceOf d env = true then some (some (d, Slot.box cs), A) else none).bind fun r => (alay nt r.1 env).map (·, r.2)) = anewB esc nt d cs env A := by
  unfold anewB alayS
  cases esc
  · cases noPlaceOf d env
    · rfl
    · by_cases h : d < nt <;> simp [alay, h]
  · by_cases h : d < nt <;> simp [alay, h]
@[go_sem] theorem aop_alloc : aop c call f nt ⟨some d, .alloc t, ty, pos, after, g⟩ env A = anewV ((c.esc f).contains d) nt d (zeroT c.P t) env A := by
  simp only [aop, aeff, anewV]
  cases zeroT c.P t with
  | none => rfl
  | some z => exact anew_eq _ _
@[go_sem] theorem aop_box : aop c call f nt ⟨some d, .box t x, ty, pos, after, g⟩ env A = anewV ((c.esc f).contains d) nt d (aeval env x) env A := by
  simp only [aop, aeff, anewV]
  cases aeval env x with
  | none => rfl
  | some z => exact anew_eq _ _
@[go_sem] theorem anewV_some {b : Bool} : anewV b nt d (some v) env A = anewB b nt d v.cells env A := by rfl
@[go_sem] theorem anewB_true {cs : List AV} : anewB true nt d cs env A = alayS nt d (.v (.ptr A.objs.length 0)) env { A with objs := A.objs ++ [.cells cs] } := by rfl
@[go_sem] theorem anewB_false {cs : List AV} (h : noPlaceOf d env = true) : anewB false nt d cs env A = alayS nt d (.box cs) env A := by simp [anewB, h]
@[go_sem] theorem noPlaceOf_nil : noPlaceOf d [] = true := by rfl
@[go_sem] theorem noPlaceOf_v : noPlaceOf d ((t, .v v) :: env) = noPlaceOf d env := by rfl
@[go_sem] theorem noPlaceOf_box {cs : List AV} : noPlaceOf d ((t, .box cs) :: env) = noPlaceOf d env := by rfl
@[go_sem] theorem noPlaceOf_place (h : ¬ s = d) : noPlaceOf d ((t, .place s off) :: env) = noPlaceOf d env := by
  have : (s != d) = true := by simpa using h
  simp [noPlaceOf, this]

@[go_sem] theorem cells_agg {cs : List AV} : (AV.agg cs).cells = cs := by rfl
@[go_sem] theorem cells_d {x : Dat} : (AV.d x).cells = [.d x] := by rfl
@[go_sem] theorem cells_nilS : AV.nilS.cells = [.nilS] := by rfl
@[go_sem] theorem cells_full {r : List (List Dat)} : (AV.full r).cells = [.full r] := by rfl
@[go_sem] theorem cells_own {a b : Nat} : (AV.own a b).cells = [.own a b] := by rfl
@[go_sem] theorem cells_ptr {a b : Nat} : (AV.ptr a b).cells = [.ptr a b] := by rfl
@[go_sem] theorem cells_func {fn : Fn} {a b : List AV} : (AV.func fn a b).cells = [.func fn a b] := by rfl
@[go_sem] theorem cells_mapr {a : Nat} : (AV.mapr a).cells = [.mapr a] := by rfl
@[go_sem] theorem cells_nilM : AV.nilM.cells = [.nilM] := by rfl
@[go_sem] theorem cells_nilP : AV.nilP.cells = [.nilP] := by rfl
@[go_sem] theorem one_d {x : Dat} : (AV.d x).one = true := by rfl
@[go_sem] theorem one_nilS : AV.nilS.one = true := by rfl
@[go_sem] theorem one_full {r : List (List Dat)} : (AV.full r).one = true := by rfl
@[go_sem] theorem one_own {a b : Nat} : (AV.own a b).one = true := by rfl
@[go_sem] theorem one_ptr {a b : Nat} : (AV.ptr a b).one = true := by rfl
@[go_sem] theorem one_func {fn : Fn} {a b : List AV} : (AV.func fn a b).one = true := by rfl
@[go_sem] theorem one_mapr {a : Nat} : (AV.mapr a).one = true := by rfl
@[go_sem] theorem one_nilM : AV.nilM.one = true := by rfl
@[go_sem] theorem one_nilP : AV.nilP.one = true := by rfl
def allOne : List AV → Bool
  | [] => true
  | v :: vs => v.one && allOne vs
theorem allOne_eq : ∀ (l : List AV), l.all AV.one = allOne l
  | [] => rfl
  | v :: vs => by simp only [List.all_cons, allOne, allOne_eq vs]
@[go_sem] theorem allOne_nil : allOne [] = true := by rfl
@[go_sem] theorem allOne_cons {vs : List AV} (h : v.one = true) : allOne (v :: vs) = allOne vs := by simp [allOne, h]

/-! ### stores -/
def astoH (env : AEnv) (A : AHeap) (cs : List AV) (a : Option AV) : Option (AEnv × AHeap) := match a with
  | some a => (astore A cs a).map (env, ·)
  | none => none
def astoL (nt : Nat) (env : AEnv) (A : AHeap) (s : Nat) (r : Option (List AV)) : Option (AEnv × AHeap) := match r with
  | some cs => alayS nt s (.box cs) env A
  | none => none
def astoB (nt : Nat) (env : AEnv) (A : AHeap) (s off : Nat) (cs : List AV) (b : Option (List AV)) : Option (AEnv × AHeap) := match b with
  | some bs => astoL nt env A s (asplice bs off cs)
  | none => none
def astoP (nt : Nat) (env : AEnv) (A : AHeap) (x : Operand) (cs : List AV) (p : Option (Nat × Nat)) : Option (AEnv × AHeap) := match p with
  | some (s, off) => astoB nt env A s off cs (abox env s)
  | none => astoH env A cs (aeval env x)
def astoC (nt : Nat) (env : AEnv) (A : AHeap) (x : Operand) (n : Nat) (cs : List AV) : Option (AEnv × AHeap) :=
  if n = cs.length ∧ allOne cs = true then astoP nt env A x cs (aplace env x) else none
def astoV (nt : Nat) (env : AEnv) (A : AHeap) (x : Operand) (k : Option (Nat × Bool)) (v : Option AV) : Option (AEnv × AHeap) := match k, v with
  | some k, some v => astoC nt env A x k.1 v.cells
  | _, _ => none
@[go_sem] theorem aop_store : aop c call f nt ⟨none, .store t x y, ty, pos, after, g⟩ env A = astoV nt env A x (kindT c.P t) (aeval env y) := by
  simp only [aop, aeff, astoV, astoC, astoP, astoB, astoL, astoH, alayS, allOne_eq]
  cases aeval env y with
  | none => cases kindT c.P t <;> rfl
  | some v =>
    cases kindT c.P t with
    | none => simp
    | some k =>
      simp only [Option.bind_some, Option.map_some, Option.some.injEq]
      by_cases h : k.1 = v.cells.length ∧ allOne v.cells = true
      · rw [if_pos h, if_pos h]
        cases aplace env x with
        | none =>
          simp only
          cases aeval env x with
          | none => rfl
          | some a =>
            simp only [Option.bind_some]
            cases astore A v.cells a <;> rfl
        | some p =>
          simp only
          cases abox env p.1 with
          | none => rfl
          | some bs =>
            simp only [Option.bind_some]
            cases asplice bs p.2 v.cells with
            | none => rfl
            | some cs =>
              simp only [Option.map_some, Option.bind_some, alay]
              split <;> rfl
      · rw [if_neg h, if_neg h]
        rfl
@[go_sem] theorem astoV_some {agg : Bool} : astoV nt env A x (some (n, agg)) (some v) = astoC nt env A x n v.cells := by rfl
@[go_sem] theorem astoC_ok {cs : List AV} (h1 : cs.length = n) (h2 : allOne cs = true) : astoC nt env A x n cs = astoP nt env A x cs (aplace env x) := by simp [astoC, h1, h2]
@[go_sem] theorem astoP_some {cs : List AV} : astoP nt env A x cs (some (s, off)) = astoB nt env A s off cs (abox env s) := by rfl
@[go_sem] theorem astoP_none {cs : List AV} : astoP nt env A x cs none = astoH env A cs (aeval env x) := by rfl
@[go_sem] theorem astoB_some {cs bs : List AV} : astoB nt env A s off cs (some bs) = astoL nt env A s (asplice bs off cs) := by rfl
@[go_sem] theorem astoL_some {cs : List AV} : astoL nt env A s (some cs) = alayS nt s (.box cs) env A := by rfl
/-- cells from off on are overwritten -/
def aover : Nat → List AV → List AV → List AV
  | 0, new, cells => new ++ cells.drop new.length
  | n + 1, new, c :: cells => c :: aover n new cells
  | _ + 1, new, [] => new
theorem aover_eq : ∀ (off : Nat) (new cells : List AV), off + new.length ≤ cells.length → cells.take off ++ new ++ cells.drop (off + new.length) = aover off new cells
  | 0, new, cells, _ => by simp [aover]
  | n + 1, new, c :: cells, h => by
    have := aover_eq n new cells (by simp at h; omega)
    simp only [aover, List.take_succ_cons, List.cons_append]
    rw [← this]
    congr 2
    rw [show n + 1 + new.length = (n + new.length) + 1 by omega, List.drop_succ_cons]
  | n + 1, new, [], h => by simp at h
@[go_sem] theorem asplice_ok {cells new : List AV} (h : off + new.length ≤ cells.length) : asplice cells off new = some (aover off new cells) := by rw [asplice, if_pos h, aover_eq off new cells h]
@[go_sem] theorem aover_zero {new cells : List AV} : aover 0 new cells = new ++ cells.drop new.length := by rfl
@[go_sem] theorem aover_succ {new cells : List AV} : aover (n + 1) new (v :: cells) = v :: aover n new cells := by rfl
@[go_sem] theorem astoH_some {cs : List AV} : astoH env A cs (some v) = (astore A cs v).map (env, ·) := by rfl
def astoO (A : AHeap) (id off : Nat) (vs : List AV) (o : Option AObj) : Option AHeap := match o with
  | some (.cells cs) => (asplice cs off vs).map fun cs' => { A with objs := A.objs.set id (.cells cs') }
  | _ => none
@[go_sem] theorem astore_ptr {vs : List AV} : astore A vs (.ptr id off) = astoO A id off vs A.objs[id]? := by rfl
@[go_sem] theorem astoO_some {vs cs : List AV} : astoO A id off vs (some (.cells cs)) = (asplice cs off vs).map fun cs' => { A with objs := A.objs.set id (.cells cs') } := by rfl

/-! ### regions that draw: quiet ones -/
@[go_sem] theorem noesc_P : c.noesc.P = c.P := by rfl
@[go_sem] theorem noesc_esc : c.noesc.esc f = [] := by rfl

/-- every operation leaves the heap as it is, and none writes a box -/
noncomputable def qops (c : ACtx) (call : FuncId → AFun) (f nt : Nat) (ops : Array Oper) : List Oper → AEnv → AHeap → Option AEnv
  | [], env, _ => some env
  | o :: rest, env, A => (astep c call f nt ops o env A).bind fun r => open Classical in if r.2 = A ∧ pstore env o = false then qops c call f nt ops rest r.1 A else none

theorem qops_trace (ops : Array Oper) : ∀ (rest : List Oper) (i : Nat) (env e : AEnv) (A : AHeap), qops c call f nt ops rest env A = some e →
    ∃ ms, atrace c call f nt ops i rest env A = some ((e, A), ms) ∧ ∀ m ∈ ms, ¬ m.co ∧ ¬ m.cb ∧ m.px = false
  | [], i, env, e, A, h => by
    simp only [qops, Option.some.injEq] at h
    subst h
    exact ⟨[], rfl, fun m hm => by cases hm⟩
  | o :: rest, i, env, e, A, h => by
    simp only [qops, astep] at h
    simp only [atrace]
    cases hg : aguard ops env o with
    | none => rw [hg] at h; simp at h
    | some b =>
      rw [hg] at h
      simp only [Option.bind_some] at h ⊢
      cases b with
      | true =>
        simp only [if_true] at h ⊢
        cases ha : aop c call f nt o env A with
        | none => rw [ha] at h; simp at h
        | some r =>
          rw [ha] at h
          simp only [Option.bind_some] at h ⊢
          split at h
          · rename_i hr
            obtain ⟨ms, h1, h2⟩ := qops_trace ops rest (i + 1) r.1 e A h
            rw [hr.1, h1]
            refine ⟨_, rfl, fun m hm => ?_⟩
            rcases List.mem_cons.1 hm with rfl | hm
            · exact ⟨fun hc => hc rfl, fun hc => hc rfl, hr.2⟩
            · exact h2 m hm
          · cases h
      | false =>
        simp only [Bool.false_eq_true, if_false] at h ⊢
        cases ha : aput nt o.dst (.v (.tuple [])) env with
        | none => rw [ha] at h; simp at h
        | some r =>
          rw [ha] at h
          simp only [Option.map_some, Option.bind_some] at h ⊢
          split at h
          · exact qops_trace ops rest (i + 1) r e A h
          · cases h

theorem adrawn_quiet {ops : Array Oper} {ms : List AMark} (h : ∀ m ∈ ms, ¬ m.co ∧ ¬ m.cb ∧ m.px = false) : adrawn ops ms :=
  ⟨fun m hm m' _ _ hx => by rcases hx with hx | hx; exact absurd hx.1 (h m hm).1; exact absurd hx.1 (h m hm).2.1, fun m hm hx => by rw [(h m hm).2.2] at hx; cases hx⟩

theorem aregion_quiet {ops : Array Oper} (h : qops c.noesc call f nt ops ops.toList (noPlaces env) A = some e) : aregion c call f nt ops true env A = some (apromote (c.esc f) ops.toList e A) := by
  obtain ⟨ms, h1, h2⟩ := qops_trace ops ops.toList 0 _ _ _ h
  simp only [aregion, if_true, h1, Option.bind_some]
  rw [if_pos (adrawn_quiet h2)]

/-- the same, not to be taken apart -/
noncomputable def cekHard (F : AF) (ks : List KF) (code : Code) (env : AEnv) (A : AHeap) : Option (AV × AHeap) := cek F ks code env A
noncomputable def cq (F : AF) (ks : List KF) (fb : Option (AV × AHeap)) (ops : Array Oper) (rest : List Oper) (env : AEnv) (A : AHeap) : Option (AV × AHeap) :=
  match qops F.c.noesc (acl F.c) F.f F.nt ops rest env A with
  | some e => ckn F ks (apromote (F.c.esc F.f) ops.toList e A).1 (apromote (F.c.esc F.f) ops.toList e A).2
  | none => fb
noncomputable def cqR (F : AF) (ks : List KF) (fb : Option (AV × AHeap)) (ops : Array Oper) (rest : List Oper) (A : AHeap) (r : Option (AEnv × AHeap)) : Option (AV × AHeap) :=
  match r.bind fun r => open Classical in if r.2 = A then qops F.c.noesc (acl F.c) F.f F.nt ops rest r.1 A else none with
  | some e => ckn F ks (apromote (F.c.esc F.f) ops.toList e A).1 (apromote (F.c.esc F.f) ops.toList e A).2
  | none => fb
@[congr] theorem cq_congr {fb : Option (AV × AHeap)} {ops : Array Oper} {rest : List Oper} (h : env = e) (h' : A = A') : cq F ks fb ops rest env A = cq F ks fb ops rest e A' := by rw [h, h']
@[congr] theorem cqR_congr {fb : Option (AV × AHeap)} {ops : Array Oper} {rest : List Oper} {r r' : Option (AEnv × AHeap)} (h : r = r') : cqR F ks fb ops rest A r = cqR F ks fb ops rest A r' := by rw [h]
/-- for functions whose drawn regions are quiet -/
theorem k_drawn_q {l : List Oper} : cek F ks (.region id l.toArray true) env A = cq F ks (cekHard F ks (.region id l.toArray true) env A) l.toArray l (noPlaces (atrim F.c F.f (some id) env)) A := by
  unfold cq
  split
  · rename_i e h
    rw [cek_region, aregion_quiet h]
    rfl
  · rfl
@[go_sem low] theorem cq_cons {fb : Option (AV × AHeap)} {ops : Array Oper} {o : Oper} {rest : List Oper} (h : pstore env o = false) :
    cq F ks fb ops (o :: rest) env A = cqR F ks fb ops rest A (astep F.c.noesc (acl F.c) F.f F.nt ops o env A) := by
  have : (fun r : AEnv × AHeap => open Classical in if r.2 = A ∧ pstore env o = false then qops F.c.noesc (acl F.c) F.f F.nt ops rest r.1 A else none) =
      fun r => open Classical in if r.2 = A then qops F.c.noesc (acl F.c) F.f F.nt ops rest r.1 A else none := by
    funext r
    by_cases hr : r.2 = A <;> simp [hr, h]
  simp only [cq, cqR, qops, this]
@[go_sem] theorem cqR_some {fb : Option (AV × AHeap)} {ops : Array Oper} {rest : List Oper} : cqR F ks fb ops rest A (some (e, A)) = cq F ks fb ops rest e A := by
  unfold cq cqR
  simp
@[go_sem] theorem cqR_ite {fb : Option (AV × AHeap)} {ops : Array Oper} {rest : List Oper} {p : Prop} [Decidable p] {a b : Option (AEnv × AHeap)} : cqR F ks fb ops rest A (if p then a else b) = if p then cqR F ks fb ops rest A a else cqR F ks fb ops rest A b := by split <;> rfl
@[go_sem] theorem cq_nil {fb : Option (AV × AHeap)} {ops : List Oper} : cq F ks fb ops.toArray [] env A = ckn F ks (apromote (F.c.esc F.f) ops env A).1 (apromote (F.c.esc F.f) ops env A).2 := by rfl
@[go_sem] theorem apromote_nil {l : List Nat} : apromote l [] env A = (env, A) := by rfl
@[go_sem] theorem apromote_none {l : List Nat} {op : Op} {rest : List Oper} : apromote l (⟨none, op, ty, pos, after, g⟩ :: rest) env A = apromote l rest env A := by rfl
@[go_sem] theorem apromote_no {l : List Nat} {op : Op} {rest : List Oper} (h : (Op.lays op && l.contains d) = false) : apromote l (⟨some d, op, ty, pos, after, g⟩ :: rest) env A = apromote l rest env A := by
  simp only [apromote, h]
  rfl
@[go_sem] theorem apromote_nol {op : Op} {rest : List Oper} : apromote [] (⟨some d, op, ty, pos, after, g⟩ :: rest) env A = apromote [] rest env A := by
  apply apromote_no
  cases Op.lays op <;> rfl
@[go_sem] theorem noPlaces_nil : noPlaces [] = [] := by rfl
@[go_sem] theorem noPlaces_v : noPlaces ((t, .v v) :: env) = (t, .v v) :: noPlaces env := by rfl
@[go_sem] theorem noPlaces_box {cs : List AV} : noPlaces ((t, .box cs) :: env) = (t, .box cs) :: noPlaces env := by rfl
@[go_sem] theorem noPlaces_place : noPlaces ((t, .place s off) :: env) = dropKey t (noPlaces env) := by rfl
@[go_sem] theorem dropKey_nil : dropKey t [] = [] := by rfl
@[go_sem] theorem dropKey_eq {x : Slot} : dropKey t ((t, x) :: env) = dropKey t env := by simp [dropKey]
@[go_sem low] theorem dropKey_ne {x : Slot} (h : ¬ s = t) : dropKey t ((s, x) :: env) = (s, x) :: dropKey t env := by simp [dropKey, h]
/-- a store of a box in a drawn region: not quiet -/
@[go_sem] theorem pstore_store : pstore env ⟨none, .store t x y, ty, pos, after, g⟩ = (aplace env x).isSome := by rfl
@[go_sem low] theorem pstore_slot {o : Oper} (h : isSlot o.op = true) : pstore env o = false := by
  unfold pstore
  cases hop : o.op <;> rw [hop] at h <;> first | rfl | (simp [isSlot] at h)
@[go_sem] theorem pstore_alloc : pstore env ⟨some d, .alloc t, ty, pos, after, g⟩ = false := by rfl
@[go_sem] theorem pstore_box : pstore env ⟨some d, .box t x, ty, pos, after, g⟩ = false := by rfl

/-! ### results -/
theorem aresultL_nil : aresultL c env A [] = some [] := by rfl
def aresC (v : Option AV) (vs : Option (List AV)) : Option (List AV) := v.bind fun v => vs.map (v :: ·)
@[go_sem] theorem aresC_some {vs : List AV} : aresC (some v) (some vs) = some (v :: vs) := by rfl
theorem aresultL_cons {r : ResultVar} : aresultL c env A (r :: rs) = aresC (aresult c env A r) (aresultL c env A rs) := by rfl
def aresT (vs : Option (List AV)) : Option AV := vs.map fun vs => match vs with
    | [v] => v
    | vs => .tuple vs
theorem aresults_T : aresults c env A rs = aresT (aresultL c env A rs) := by rfl
@[go_sem] theorem aresT_two {v1 v2 : AV} : aresT (some [v1, v2]) = some (.tuple [v1, v2]) := by rfl
@[go_sem] theorem aresT_three {v1 v2 v3 : AV} {l : List AV} : aresT (some (v1 :: v2 :: v3 :: l)) = some (.tuple (v1 :: v2 :: v3 :: l)) := by rfl
@[go_sem] theorem ckr_nil : ckr ⟨c, f, nt, [], A0⟩ env A = afinR c f A0 A (some (.tuple [])) := by rfl
@[go_sem] theorem ckr_more {r r' : ResultVar} : ckr ⟨c, f, nt, r :: r' :: rs, A0⟩ env A = afinR c f A0 A (aresT (aresC (aresult c env A r) (aresC (aresult c env A r') (aresultL c env A rs)))) := by rfl
attribute [go_sem] aresultL_nil aresultL_cons
def aresCell (env : AEnv) (A : AHeap) (t : Nat) (k : Option (Nat × Bool)) (p : Option (Nat × Nat)) : Option AV := match k with
  | some (n, agg) => aloadK env A n agg (.tmp t) p
  | none => none
@[go_sem] theorem aresult_cell : aresult c env A (.cell t ty) = aresCell env A t (kindT c.P ty) (aplace env (.tmp t)) := by
  simp only [aresult, aresCell, aloadK, apartS, abindV]
  cases kindT c.P ty with
  | none => rfl
  | some k => rfl
@[go_sem] theorem aresCell_some {agg : Bool} {p : Option (Nat × Nat)} : aresCell env A t (some (n, agg)) p = aloadK env A n agg (.tmp t) p := by rfl

/-! ### leaving a function -/
/-- plain values: nothing owned, no pointer into the heap -/
def AV.flat1 : AV → Bool
  | .d _ | .nilP | .nilF | .nilM => true
  | _ => false
def AV.clean1 : AV → AV
  | .nilS => .d (.slice [])
  | .full rows => .d (.slice rows)
  | v => v
def AV.still1 : AV → Bool
  | .d _ | .nilP | .nilF | .nilM | .nilS | .full _ => true
  | _ => false
theorem aclean_still (h : v.still1 = true) : aclean A v = (v.clean1, A) := by
  cases v <;> first | rfl | (simp [AV.still1] at h)
theorem acleans_still : ∀ {cs : List AV}, cs.all AV.still1 = true → acleans A cs = (cs.map AV.clean1, A)
  | [], _ => rfl
  | v :: vs, h => by
    simp only [List.all_cons, Bool.and_eq_true] at h
    simp only [acleans, aclean_still h.1, acleans_still h.2, List.map_cons]
def AV.still2 : AV → Bool
  | .agg cs => cs.all AV.still1
  | v => v.still1
def AV.clean2 : AV → AV
  | .agg cs => .agg (cs.map AV.clean1)
  | v => v.clean1
theorem acleanV_still (h : v.still2 = true) : acleanV A v = (v.clean2, A) := by
  cases v with
  | agg cs => simp only [AV.still2] at h; simp only [acleanV, acleans_still h, AV.clean2]
  | _ => simp only [AV.still2] at h; simp only [acleanV, AV.clean2]; exact aclean_still h
theorem acleanVs_still : ∀ {cs : List AV}, cs.all AV.still2 = true → acleanVs A cs = (cs.map AV.clean2, A)
  | [], _ => rfl
  | v :: vs, h => by
    simp only [List.all_cons, Bool.and_eq_true] at h
    simp only [acleanVs, acleanV_still h.1, acleanVs_still h.2, List.map_cons]
def AV.still3 : AV → Bool
  | .tuple cs => cs.all AV.still2
  | v => v.still2
def AV.clean3 : AV → AV
  | .tuple cs => .tuple (cs.map AV.clean2)
  | v => v.clean2
theorem acleanR_still (h : v.still3 = true) : acleanR A v = (v.clean3, A) := by
  cases v with
  | tuple cs => simp only [AV.still3] at h; simp only [acleanR, acleanVs_still h, AV.clean3]
  | _ => simp only [AV.still3] at h; simp only [acleanR, AV.clean3]; exact acleanV_still h
theorem noptr1_clean (h : v.still1 = true) : v.clean1.noptr1 = true := by
  cases v <;> first | rfl | (simp [AV.still1] at h)
theorem noptr2_clean (h : v.still2 = true) : v.clean2.noptr2 = true := by
  cases v with
  | agg cs =>
    simp only [AV.still2, List.all_eq_true] at h
    simp only [AV.clean2, AV.noptr2, List.all_map, List.all_eq_true]
    exact fun x hx => noptr1_clean (h x hx)
  | _ => first | rfl | (simp [AV.still2, AV.still1] at h)
theorem noptr_clean (h : v.still3 = true) : v.clean3.noptr = true := by
  cases v with
  | tuple cs =>
    simp only [AV.still3, List.all_eq_true] at h
    simp only [AV.clean3, AV.noptr, List.all_map, List.all_eq_true]
    exact fun x hx => noptr2_clean (h x hx)
  | agg cs => exact noptr2_clean (v := .agg cs) h
  | _ => first | rfl | (simp [AV.still3, AV.still2, AV.still1] at h)
theorem acut_back {objs : List AObj} {bufs : List ABuf} (h : v.noptr = true) : acut A0 v ⟨A0.objs ++ objs, A0.bufs ++ bufs⟩ = (v, A0) := by
  unfold acut
  simp only [List.take_left', if_true, h]
/-- back in the heap that was there, with plain results -/
theorem afinR_still (ho : c.own f = false) (h : v.still3 = true) : afinR c f A A (some v) = some (v.clean3, A) := by
  simp only [afinR, Option.map_some, afinish, ho, Bool.false_eq_true, if_false, acleanR_still h]
  rw [acut_same (noptr_clean h)]
theorem afinR_back {objs : List AObj} {bufs : List ABuf} (ho : c.own f = false) (h : v.still3 = true) : afinR c f A0 ⟨A0.objs ++ objs, A0.bufs ++ bufs⟩ (some v) = some (v.clean3, A0) := by
  simp only [afinR, Option.map_some, afinish, ho, Bool.false_eq_true, if_false, acleanR_still h]
  rw [acut_back (noptr_clean h)]
/-- the heap has other contents, but no more objects and slices -/
theorem afinR_len (ho : c.own f = false) (h : v.still3 = true) (h1 : A.objs.length = A0.objs.length) (h2 : A.bufs.length = A0.bufs.length) : afinR c f A0 A (some v) = some (v.clean3, A) := by
  simp only [afinR, Option.map_some, afinish, ho, Bool.false_eq_true, if_false, acleanR_still h]
  unfold acut
  split
  · rename_i he
    rw [if_pos (noptr_clean h), ← he, ← h2, ← h1, List.take_length, List.take_length]
  · rfl
/-- the objects that were there have other contents -/
theorem afinR_loud (ho : c.own f = false) (h : v.still3 = true) (h1 : A.objs.take A0.objs.length ≠ A0.objs) : afinR c f A0 A (some v) = some (v.clean3, A) := by
  simp only [afinR, Option.map_some, afinish, ho, Bool.false_eq_true, if_false, acleanR_still h]
  unfold acut
  rw [if_neg h1]
end
end Go.Abs
