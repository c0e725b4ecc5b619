/- Rules by which the abstract machine is run symbolically ('simp only [go_sem, ..]'). -/
import Derived.Test.YtfoibmfocmjmdaaAbsEq
import Derived.Attr
set_option linter.unusedVariables false
set_option linter.unusedSimpArgs false
set_option linter.all false
set_option linter.deprecated false
namespace Go.Abs

/-! ### the machine: code, what is left to do, slots, heap -/
section
variable {c : ACtx} {call : FuncId → AFun} {f nt : Nat} {env e : AEnv} {A A0 : AHeap} {rs : List ResultVar}

inductive KF where
  | seq (y : Code)
  | block (id : Nat)
  | loop (x : Code)

noncomputable def axK (c : ACtx) (f nt : Nat) (y : Code) (x : ARes) : ARes := x.bind fun r => match r.1 with
    | .normal => ax c f nt y r.2.1 r.2.2
    | _ => some r
def ablockK (id : Nat) (x : ARes) : ARes := x.map fun r => match r.1 with
    | .exit j => if j = id then (.normal, r.2) else r
    | _ => r
noncomputable def aloopK (c : ACtx) (f nt : Nat) (x : Code) (r : ARes) : ARes := r.bind fun r => match r.1 with
    | .normal => ax c f nt (.loop x) r.2.1 r.2.2
    | _ => some r

noncomputable def aplug (c : ACtx) (f nt : Nat) : List KF → ARes → ARes
  | [], r => r
  | .seq y :: ks, r => aplug c f nt ks (axK c f nt y r)
  | .block id :: ks, r => aplug c f nt ks (ablockK id r)
  | .loop x :: ks, r => aplug c f nt ks (aloopK c f nt x r)

noncomputable def afinR (c : ACtx) (f : FuncId) (A0 A : AHeap) (x : Option AV) : Option (AV × AHeap) := x.map fun v => afinish c f A0 v A
noncomputable def afinK (c : ACtx) (f : FuncId) (rs : List ResultVar) (A0 : AHeap) (x : ARes) : Option (AV × AHeap) := x.bind fun x => match x.1 with
      | .exit _ => none
      | _ => afinR c f A0 x.2.2 (aresults c x.2.1 x.2.2 rs)

/-- the function, the number of its slots, its results, the heap when it was entered -/
structure AF where
  c : ACtx
  f : FuncId
  nt : Nat
  rs : List ResultVar
  A0 : AHeap

noncomputable def cek (F : AF) (ks : List KF) (code : Code) (env : AEnv) (A : AHeap) : Option (AV × AHeap) := afinK F.c F.f F.rs F.A0 (aplug F.c F.f F.nt ks (ax F.c F.f F.nt code env A))
noncomputable def ckr (F : AF) (env : AEnv) (A : AHeap) : Option (AV × AHeap) := afinR F.c F.f F.A0 A (aresults F.c env A F.rs)
noncomputable def ckn (F : AF) (ks : List KF) (env : AEnv) (A : AHeap) : Option (AV × AHeap) := afinK F.c F.f F.rs F.A0 (aplug F.c F.f F.nt ks (some (.normal, env, A)))
noncomputable def ckx (F : AF) (id : Nat) (ks : List KF) (env : AEnv) (A : AHeap) : Option (AV × AHeap) := afinK F.c F.f F.rs F.A0 (aplug F.c F.f F.nt ks (some (.exit id, env, A)))

variable {F : AF} {ks : List KF} {x y : Code}

@[congr] theorem cek_congr {e' : AEnv} {A' : AHeap} (h : env = e') (h' : A = A') : cek F ks x env A = cek F ks x e' A' := by rw [h, h']
@[congr] theorem ckn_congr {e' : AEnv} {A' : AHeap} (h : env = e') (h' : A = A') : ckn F ks env A = ckn F ks e' A' := by rw [h, h']
@[congr] theorem ckx_congr {id : Nat} {e' : AEnv} {A' : AHeap} (h : env = e') (h' : A = A') : ckx F id ks env A = ckx F id ks e' A' := by rw [h, h']

@[go_sem] theorem k_seq : cek F ks (.seq x y) env A = cek F (.seq y :: ks) x env A := by
  unfold cek
  rw [ax_seq]
  rfl
@[go_sem] theorem k_block {id : Nat} : cek F ks (.block id x) env A = cek F (.block id :: ks) x env A := by
  unfold cek
  rw [ax_block]
  rfl
/-- one round -/
theorem k_loop : cek F ks (.loop x) env A = cek F (.loop x :: ks) x (atrim F.c F.f (firstRegion x) env) A := by
  unfold cek
  rw [ax_loop]
  rfl
@[go_sem] theorem k_skip : cek F ks .skip env A = ckn F ks env A := by unfold cek; rw [ax_skip]; rfl
@[go_sem] theorem k_exit {id : Nat} : cek F ks (.exit id) env A = ckx F id ks env A := by unfold cek; rw [ax_exit]; rfl
theorem aplug_ret : ∀ (ks : List KF), aplug c f nt ks (some (.ret, env, A)) = some (.ret, env, A)
  | [] => rfl
  | .seq _ :: ks => aplug_ret ks
  | .block _ :: ks => aplug_ret ks
  | .loop _ :: ks => aplug_ret ks
theorem aplug_none : ∀ (ks : List KF), aplug c f nt ks none = none
  | [] => rfl
  | .seq _ :: ks => aplug_none ks
  | .block _ :: ks => aplug_none ks
  | .loop _ :: ks => aplug_none ks
@[go_sem] theorem k_ret : cek F ks .ret env A = ckr F env A := by unfold cek; rw [ax_ret, aplug_ret]; rfl
@[go_sem] theorem n_seq : ckn F (.seq y :: ks) env A = cek F ks y env A := by rfl
@[go_sem] theorem n_block {id : Nat} : ckn F (.block id :: ks) env A = ckn F ks env A := by rfl
@[go_sem] theorem n_loop : ckn F (.loop x :: ks) env A = cek F ks (.loop x) env A := by rfl
@[go_sem] theorem n_nil : ckn F [] env A = ckr F env A := by rfl
@[go_sem] theorem x_seq {id : Nat} : ckx F id (.seq y :: ks) env A = ckx F id ks env A := by rfl
@[go_sem] theorem x_loop {id : Nat} : ckx F id (.loop x :: ks) env A = ckx F id ks env A := by rfl
@[go_sem] theorem x_block {id : Nat} : ckx F id (.block id :: ks) env A = ckn F ks env A := by simp [ckx, ckn, aplug, ablockK]
@[go_sem low] theorem x_block' {id j : Nat} : ckx F id (.block j :: ks) env A = if id = j then ckn F ks env A else ckx F id ks env A := by
  by_cases h : id = j <;> simp [ckx, ckn, aplug, ablockK, h]

def acondK {α : Type} (x : Option AV) (t e : Option α) : Option α := match x with
  | some (.d (.bool b)) => if b = true then t else e
  | _ => none
@[congr] theorem acondK_congr {α : Type} {x x' : Option AV} {t e : Option α} (h : x = x') : acondK x t e = acondK x' t e := by rw [h]
@[go_sem] theorem acondK_true {α : Type} {t e : Option α} : acondK (some (.d (.bool true))) t e = t := by rfl
@[go_sem] theorem acondK_false {α : Type} {t e : Option α} : acondK (some (.d (.bool false))) t e = e := by rfl
theorem acondK_bool {α : Type} {b : Bool} {t e : Option α} : acondK (some (.d (.bool b))) t e = if b = true then t else e := by rfl
theorem acB_merge {p : Prop} [Decidable p] {v w : AV} : (if p then some (v, A) else some (w, A)) = some (if p then v else w, A) := by split <;> rfl
/-- both ways -/
theorem way {α : Type} {b : Bool} {t e r : Option α} (ht : b = true → t = r) (hf : b = false → e = r) : (if b = true then t else e) = r := by
  cases b
  · exact hf rfl
  · exact ht rfl

theorem ax_cond_eq {v : Operand} : ax c f nt (.cond v x y) env A = acondK (aeval env v) (ax c f nt x env A) (ax c f nt y env A) := by
  by_cases h : ∃ b, aeval env v = some (.d (.bool b))
  · obtain ⟨b, hb⟩ := h
    rw [ax_cond hb, hb]
    rfl
  · have h2 : acondK (aeval env v) (ax c f nt x env A) (ax c f nt y env A) = none := by
      unfold acondK
      split
      · rename_i b hb; exact absurd ⟨b, hb⟩ h
      · rfl
    rw [h2]
    cases hx : ax c f nt (.cond v x y) env A with
    | none => rfl
    | some r =>
      obtain ⟨n, hn⟩ := ax_some.1 hx
      simp only [acode] at hn
      split at hn
      · rename_i b hb; exact absurd ⟨b, hb⟩ h
      · cases hn
@[go_sem] theorem k_cond {v : Operand} : cek F ks (.cond v x y) env A = acondK (aeval env v) (cek F ks x env A) (cek F ks y env A) := by
  unfold cek
  rw [ax_cond_eq]
  unfold acondK
  split
  · split <;> rfl
  · rw [aplug_none]; rfl

@[go_sem] theorem firstRegion_region {id : Nat} {ops : Array Oper} {d : Bool} : firstRegion (.region id ops d) = some id := by rfl
@[go_sem] theorem firstRegion_seq {x y : Code} : firstRegion (.seq x y) = firstRegion x := by rfl
@[go_sem] theorem firstRegion_block {id : Nat} {x : Code} : firstRegion (.block id x) = firstRegion x := by rfl

/-- slots that are kept -/
def akeepK (o : Option (List Nat)) (env : AEnv) : AEnv := match o with
  | some ts => akeep env ts
  | none => env
@[go_sem] theorem r_trim {r : Nat} : atrim c f (some r) env = akeepK (c.live f r) env := by rfl
@[go_sem] theorem akeepK_some {ts : List Nat} : akeepK (some ts) env = akeep env ts := by rfl
@[go_sem] theorem akeepK_none : akeepK none env = env := by rfl
def akeepC (t : Nat) (x : Option Slot) (l : AEnv) : AEnv := match x with
  | some x => (t, x) :: l
  | none => l
@[go_sem] theorem akeep_nil : akeep env [] = [] := by rfl
@[go_sem] theorem akeep_cons {t : Nat} {ts : List Nat} : akeep env (t :: ts) = akeepC t (alook env t) (akeep env ts) := by rfl
@[go_sem] theorem akeepC_some {t : Nat} {x : Slot} {l : AEnv} : akeepC t (some x) l = (t, x) :: l := by rfl
@[go_sem] theorem akeepC_none {t : Nat} {l : AEnv} : akeepC t none l = l := by rfl
@[go_sem] theorem alook_nil {t : Nat} : alook [] t = none := by rfl
@[go_sem] theorem alook_eq {t : Nat} {x : Slot} : alook ((t, x) :: env) t = some x := by simp [alook]
@[go_sem low] theorem alook_ne {s t : Nat} {x : Slot} (h : ¬ s = t) : alook ((s, x) :: env) t = alook env t := by simp [alook, h]
@[congr] theorem alook_congr {t t' : Nat} (h : t = t') : alook env t = alook env t' := by rw [h]

/-! ### a region in the order of its text -/
noncomputable def cokr (F : AF) (ks : List KF) (x : Option (AEnv × AHeap)) : Option (AV × AHeap) := x.bind fun r => ckn F ks r.1 r.2
noncomputable def cops (F : AF) (ks : List KF) (ops : Array Oper) (rest : List Oper) (env : AEnv) (A : AHeap) : Option (AV × AHeap) :=
  cokr F ks (aops F.c (acl F.c) F.f F.nt ops rest env A)
@[congr] theorem cops_congr {ops : Array Oper} {rest : List Oper} {e' : AEnv} {A' : AHeap} (h : env = e') (h' : A = A') : cops F ks ops rest env A = cops F ks ops rest e' A' := by rw [h, h']
noncomputable def cput (F : AF) (ks : List KF) (ops : Array Oper) (rest : List Oper) (x : Option (AEnv × AHeap)) : Option (AV × AHeap) :=
  x.bind fun r => cops F ks ops rest r.1 r.2
@[congr] theorem cput_congr {ops : Array Oper} {rest : List Oper} {z z' : Option (AEnv × AHeap)} (h : z = z') : cput F ks ops rest z = cput F ks ops rest z' := by rw [h]
theorem cek_region {id : Nat} {ops : Array Oper} {d : Bool} : cek F ks (.region id ops d) env A = cokr F ks (aregion F.c (acl F.c) F.f F.nt ops d (atrim F.c F.f (some id) env) A) := by
  unfold cek cokr ckn
  rw [ax_region]
  cases aregion F.c (acl F.c) F.f F.nt ops d (atrim F.c F.f (some id) env) A with
  | none => rw [Option.map_none, aplug_none]; rfl
  | some r => rfl
@[go_sem] theorem k_region {id : Nat} {l : List Oper} : cek F ks (.region id l.toArray false) env A = cops F ks l.toArray l (atrim F.c F.f (some id) env) A := by
  rw [cek_region]; rfl
@[go_sem] theorem c_nil {ops : Array Oper} : cops F ks ops [] env A = ckn F ks env A := by rfl
@[go_sem low] theorem c_cons {ops : Array Oper} {o : Oper} {rest : List Oper} : cops F ks ops (o :: rest) env A = cput F ks ops rest (astep F.c (acl F.c) F.f F.nt ops o env A) := by
  unfold cops cput cokr cops cokr
  simp only [aops]
  cases astep F.c (acl F.c) F.f F.nt ops o env A <;> rfl
@[go_sem] theorem cput_some {ops : Array Oper} {rest : List Oper} : cput F ks ops rest (some (e, A)) = cops F ks ops rest e A := by rfl
@[go_sem] theorem cput_ite {ops : Array Oper} {rest : List Oper} {p : Prop} [Decidable p] {a b : Option (AEnv × AHeap)} : cput F ks ops rest (if p then a else b) = if p then cput F ks ops rest a else cput F ks ops rest b := by split <;> rfl

/-- an operation that lays one slot and leaves the others alone -/
def isSlot : Op → Bool
  | .alloc _ | .box _ _ | .store _ _ _ => false
  | _ => true

def aputS (nt : Nat) (dst : Option Tmp) (env : AEnv) (x : Option (Slot × AHeap)) : Option (AEnv × AHeap) := x.bind fun r => (aput nt dst r.1 env).map (·, r.2)
@[go_sem] theorem aputS_some {d : Nat} {s : Slot} (h : d < nt) : aputS nt (some d) env (some (s, A)) = some ((d, s) :: env, A) := by
  simp [aputS, aput, alay, h]
@[congr] theorem aputS_congr {dst : Option Tmp} {z z' : Option (Slot × AHeap)} (h : z = z') : aputS nt dst env z = aputS nt dst env z' := by rw [h]
@[go_sem] theorem aputS_nodst {s : Slot} : aputS nt none env (some (s, A)) = some (env, A) := by rfl
@[go_sem] theorem aputS_none {dst : Option Tmp} : aputS nt dst env none = none := by rfl
@[go_sem low] theorem aputS_ite {dst : Option Tmp} {p : Prop} [Decidable p] {a b : Option (Slot × AHeap)} : aputS nt dst env (if p then a else b) = if p then aputS nt dst env a else aputS nt dst env b := by split <;> rfl

theorem aop_slot {o : Oper} (h : isSlot o.op = true) : aop c call f nt o env A = aputS nt o.dst env (aslot c call env A o.op) := by
  have he : aeff c call f o env A = (aslot c call env A o.op).map fun r => (o.dst.map (·, r.1), r.2) := by
    cases hop : o.op <;> rw [hop] at h <;> first | (simp [isSlot] at h; done) | simp only [aeff, hop]
  unfold aop aputS aput
  rw [he]
  cases aslot c call env A o.op <;> rfl

/-- the guard's answer -/
def asel {α : Type} (g : Option Bool) (x y : Option α) : Option α := match g with
  | some b => if b = true then x else y
  | none => none
@[congr] theorem asel_congr {α : Type} {g g' : Option Bool} {x y : Option α} (h : g = g') : asel g x y = asel g' x y := by rw [h]
@[go_sem] theorem asel_true {α : Type} {x y : Option α} : asel (some true) x y = x := by rfl
@[go_sem] theorem asel_false {α : Type} {x y : Option α} : asel (some false) x y = y := by rfl
@[go_sem low] theorem asel_some {α : Type} {b : Bool} {x y : Option α} : asel (some b) x y = if b = true then x else y := by rfl
theorem asel_not {α : Type} {b : Bool} {x y : Option α} : asel (some (!b)) x y = asel (some b) y x := by cases b <;> rfl
@[go_sem] theorem asel_none {α : Type} {x y : Option α} : asel none x y = none := by rfl

def aput0 (nt : Nat) (dst : Option Tmp) (env : AEnv) (A : AHeap) : Option (AEnv × AHeap) := (aput nt dst (.v (.tuple [])) env).map (·, A)
@[go_sem] theorem aput0_some {d : Nat} (h : d < nt) : aput0 nt (some d) env A = some ((d, .v (.tuple [])) :: env, A) := by
  simp [aput0, aput, alay, h]
@[go_sem] theorem aput0_none : aput0 nt none env A = some (env, A) := by rfl

theorem r_step {ops : Array Oper} {o : Oper} : astep c call f nt ops o env A = asel (aguard ops env o) (aop c call f nt o env A) (aput0 nt o.dst env A) := by
  unfold astep asel
  cases aguard ops env o with
  | none => rfl
  | some b => cases b <;> rfl
@[go_sem low] theorem r_step0 {ops : Array Oper} {dst : Option Tmp} {op : Op} {type : TypeId} {pos : String} {after : Array Edge} :
    astep c call f nt ops ⟨dst, op, type, pos, after, none⟩ env A = aop c call f nt ⟨dst, op, type, pos, after, none⟩ env A := by rfl
@[go_sem] theorem r_step0s {ops : Array Oper} {dst : Option Tmp} {op : Op} {type : TypeId} {pos : String} {after : Array Edge} (h : isSlot op = true) :
    astep c call f nt ops ⟨dst, op, type, pos, after, none⟩ env A = aputS nt dst env (aslot c call env A op) := by rw [r_step0, aop_slot h]
def aguardS (x : Option Slot) (w : Bool) : Option Bool := match x with
  | some (.v x) => agt x w
  | _ => none
def anth : List Oper → Nat → Option Nat
  | [], _ => none
  | o :: _, 0 => o.dst
  | _ :: l, n + 1 => anth l n
theorem anth_eq : ∀ (l : List Oper) (j : Nat), anth l j = (l[j]?).bind (·.dst)
  | [], _ => rfl
  | _ :: _, 0 => rfl
  | _ :: l, n + 1 => by simpa [anth] using anth_eq l n
@[congr] theorem anth_congr {l : List Oper} {j j' : Nat} (h : j = j') : anth l j = anth l j' := by rw [h]
@[go_sem] theorem anth_zero {l : List Oper} {d : Option Nat} {op : Op} {type : TypeId} {pos : String} {after : Array Edge} {g : Option (Nat × Bool)} : anth (⟨d, op, type, pos, after, g⟩ :: l) 0 = d := by rfl
@[go_sem] theorem anth_succ {l : List Oper} {o : Oper} {n : Nat} : anth (o :: l) (n + 1) = anth l n := by rfl
def aguardK (env : AEnv) (w : Bool) (o : Option Nat) : Option Bool := match o with
  | some t => aguardS (alook env t) w
  | none => none
@[go_sem] theorem aguardK_some {w : Bool} {t : Nat} : aguardK env w (some t) = aguardS (alook env t) w := by rfl
@[go_sem] theorem aguardS_some {x : AV} {w : Bool} : aguardS (some (.v x)) w = agt x w := by rfl
theorem aguard_some {ops : List Oper} {dst : Option Tmp} {op : Op} {type : TypeId} {pos : String} {after : Array Edge} {j : Nat} {w : Bool} :
    aguard ops.toArray env ⟨dst, op, type, pos, after, some (j, w)⟩ = aguardK env w (anth ops j) := by
  rw [anth_eq]
  simp only [aguard, aguardK, aguardS, List.getElem?_toArray]
  rfl
@[go_sem low] theorem r_step1 {ops : List Oper} {dst : Option Tmp} {op : Op} {type : TypeId} {pos : String} {after : Array Edge} {j : Nat} {w : Bool} :
    astep c call f nt ops.toArray ⟨dst, op, type, pos, after, some (j, w)⟩ env A = asel (aguardK env w (anth ops j)) (aop c call f nt ⟨dst, op, type, pos, after, some (j, w)⟩ env A) (aput0 nt dst env A) := by
  rw [r_step, aguard_some]
@[go_sem] theorem r_step1s {ops : List Oper} {dst : Option Tmp} {op : Op} {type : TypeId} {pos : String} {after : Array Edge} {j : Nat} {w : Bool} (h : isSlot op = true) :
    astep c call f nt ops.toArray ⟨dst, op, type, pos, after, some (j, w)⟩ env A = aputS nt dst env (asel (aguardK env w (anth ops j)) (aslot c call env A op) (some (.v (.tuple []), A))) := by
  rw [r_step1, aop_slot h]
  cases aguardK env w (anth ops j) with
  | none => rfl
  | some b => cases b <;> rfl
@[go_sem] theorem agt_bool {b w : Bool} : agt (.d (.bool b)) w = some (b == w) := by rfl
@[go_sem] theorem agt_skip {w : Bool} : agt (.tuple []) w = some false := by rfl
@[go_sem] theorem agt_ite {p : Prop} [Decidable p] {x y : AV} {w : Bool} : agt (if p then x else y) w = if p then agt x w else agt y w := by split <;> rfl
@[go_sem] theorem agt_merge {p : Prop} [Decidable p] {x : Bool} : (if p then some x else some false) = some (decide p && x) := by by_cases h : p <;> simp [h]
@[go_sem] theorem agt_merge' {p : Prop} [Decidable p] {x : Bool} : (if p then some false else some x) = some (!decide p && x) := by by_cases h : p <;> simp [h]

/-- two ways of one operation meet -/
@[go_sem] theorem amerge {p : Prop} [Decidable p] {a b : Slot} : (if p then some (a, A) else some (b, A)) = some (if p then a else b, A) := by split <;> rfl
@[go_sem] theorem amerge_v {p : Prop} [Decidable p] {a b : AV} : (if p then Slot.v a else Slot.v b) = Slot.v (if p then a else b) := by split <;> rfl
@[go_sem] theorem amerge_int {p : Prop} [Decidable p] {k : IntKind} {x y : Int} : (if p then AV.d (.int k x) else AV.d (.int k y)) = AV.d (.int k (if p then x else y)) := by split <;> rfl
@[go_sem] theorem amerge_str {p : Prop} [Decidable p] {x y : List UInt8} : (if p then AV.d (.str x) else AV.d (.str y)) = AV.d (.str (if p then x else y)) := by split <;> rfl
@[go_sem] theorem amerge_slice {p : Prop} [Decidable p] {x y : List (List Dat)} : (if p then AV.d (.slice x) else AV.d (.slice y)) = AV.d (.slice (if p then x else y)) := by split <;> rfl
@[go_sem] theorem amerge_tuple {p : Prop} [Decidable p] {x y v w : AV} : (if p then AV.tuple [x, v] else AV.tuple [y, w]) = AV.tuple [if p then x else y, if p then v else w] := by split <;> rfl
@[go_sem] theorem amerge_same {α : Type} {p : Prop} [Decidable p] {x : α} : (if p then x else x) = x := by split <;> rfl
@[go_sem] theorem amerge_bool {p : Prop} [Decidable p] {x y : Bool} : (if p then AV.d (.bool x) else AV.d (.bool y)) = AV.d (.bool (if p then x else y)) := by split <;> rfl

section isslot
variable {t s u : TypeId} {x y z : Operand} {i : Nat}
@[go_sem] theorem i_move : isSlot (.move x) = true := by simp only [isSlot]
@[go_sem] theorem i_assign : isSlot (.assign x) = true := by simp only [isSlot]
@[go_sem] theorem i_pick : isSlot (.pick x y z) = true := by simp only [isSlot]
@[go_sem] theorem i_build {ps} : isSlot (.build t ps) = true := by simp only [isSlot]
@[go_sem] theorem i_buildSlice {n ps} : isSlot (.buildSlice t n ps) = true := by simp only [isSlot]
@[go_sem] theorem i_load : isSlot (.load t x) = true := by simp only [isSlot]
@[go_sem] theorem i_nilCheck : isSlot (.nilCheck x) = true := by simp only [isSlot]
@[go_sem] theorem i_binOp {op} : isSlot (.binOp op t x y u) = true := by simp only [isSlot]
@[go_sem] theorem i_unOp {op} : isSlot (.unOp op t x) = true := by simp only [isSlot]
@[go_sem] theorem i_convert : isSlot (.convert s t x) = true := by simp only [isSlot]
@[go_sem] theorem i_makeFunc {fn a b} : isSlot (.makeFunc fn a b) = true := by simp only [isSlot]
@[go_sem] theorem i_makeMap {r} : isSlot (.makeMap t r) = true := by simp only [isSlot]
@[go_sem] theorem i_slice {a b d} : isSlot (.slice t x a b d) = true := by simp only [isSlot]
@[go_sem] theorem i_fieldAddr : isSlot (.fieldAddr t x i) = true := by simp only [isSlot]
@[go_sem] theorem i_field : isSlot (.field t x i) = true := by simp only [isSlot]
@[go_sem] theorem i_indexAddr : isSlot (.indexAddr t x y) = true := by simp only [isSlot]
@[go_sem] theorem i_index : isSlot (.index t x y) = true := by simp only [isSlot]
@[go_sem] theorem i_lookup {b} : isSlot (.lookup t x y b) = true := by simp only [isSlot]
@[go_sem] theorem i_mapUpdate : isSlot (.mapUpdate t x y z) = true := by simp only [isSlot]
@[go_sem] theorem i_extract : isSlot (.extract x i) = true := by simp only [isSlot]
@[go_sem] theorem i_call {cl} : isSlot (.call cl) = true := by simp only [isSlot]
end isslot

/-! ### operations -/
section ops
variable {s t u : TypeId} {x y z : Operand} {i : Nat} {v w : AV}
def asv (A : AHeap) (x : Option AV) : Option (Slot × AHeap) := x.map fun v => (.v v, A)
@[go_sem] theorem asv_some : asv A (some v) = some (.v v, A) := by rfl
@[go_sem] theorem asv_none : asv A none = none := by rfl
@[go_sem low] theorem asv_ite {p : Prop} [Decidable p] {a b : Option AV} : asv A (if p then a else b) = if p then asv A a else asv A b := by split <;> rfl
@[go_sem] theorem o_move : aslot c call env A (.move x) = asv A (aeval env x) := by simp only [aslot, aval1, asv]; cases aeval env x <;> rfl
@[go_sem] theorem o_assign : aslot c call env A (.assign x) = asv A (aeval env x) := by simp only [aslot, aval1, asv]; cases aeval env x <;> rfl
def apickR (x a b : Option AV) : Option AV := match x, a, b with
    | some (.d (.bool t)), some va, some vb => some (if t then va else vb)
    | _, _, _ => none
@[go_sem] theorem apickR_some {t : Bool} {va vb : AV} : apickR (some (.d (.bool t))) (some va) (some vb) = some (if t = true then va else vb) := by rfl
@[go_sem] theorem o_pick : aslot c call env A (.pick x y z) = asv A (apickR (aeval env x) (aeval env y) (aeval env z)) := by
  simp only [aslot, aval1, asv, apickR]
  generalize aeval env x = a1
  generalize aeval env y = a2
  generalize aeval env z = a3
  cases a1 with
  | none => rfl
  | some v =>
    cases v <;> try rfl
    rename_i d
    cases d <;> try rfl
    cases a2 <;> cases a3 <;> rfl
def abinR (P : Program) (op : BinOp) (t : TypeId) (x y : Option AV) : Option AV := match x, y with
    | some a, some b => abin P op t a b
    | _, _ => none
@[go_sem] theorem abinR_some {P : Program} {op : BinOp} {a b : AV} : abinR P op t (some a) (some b) = abin P op t a b := by rfl
@[go_sem] theorem o_bin {op : BinOp} : aslot c call env A (.binOp op t x y u) = asv A (abinR c.P op t (aeval env x) (aeval env y)) := by
  simp only [aslot, aval1, asv, abinR]
  cases aeval env x <;> cases aeval env y <;> try rfl
  simp only [Option.map_map]; rfl
def abindV (f : AV → Option AV) (x : Option AV) : Option AV := x.bind f
@[go_sem] theorem abindV_some {f : AV → Option AV} : abindV f (some v) = f v := by rfl
@[go_sem] theorem o_un {op : UnOp} : aslot c call env A (.unOp op t x) = asv A (abindV (aun op) (aeval env x)) := by
  simp only [aslot, aval1, asv, abindV]; cases aeval env x <;> try rfl
  simp only [Option.bind_some, Option.map_map]; rfl
@[go_sem] theorem u_not {b : Bool} : aun .not (.d (.bool b)) = some (.d (.bool (!b))) := by rfl
@[go_sem] theorem u_neg {k : IntKind} {n : Int} : aun .neg (.d (.int k n)) = some (.d (.int k (k.wrap (0 - n)))) := by rfl
@[go_sem] theorem o_conv : aslot c call env A (.convert s t x) = asv A (abindV (aconv c.P s t) (aeval env x)) := by
  simp only [aslot, aval1, asv, abindV]; cases aeval env x <;> try rfl
  simp only [Option.bind_some, Option.map_map]; rfl
def anilR (v : AV) : Option AV := match v with
  | .ptr id off => some (.ptr id off)
  | .sptr cs => some (.sptr cs)
  | .eptr a b i o => some (.eptr a b i o)
  | _ => none
@[go_sem] theorem anilR_ptr {id off : Nat} : anilR (.ptr id off) = some (.ptr id off) := by rfl
@[go_sem] theorem o_nilCheck : aslot c call env A (.nilCheck x) = asv A (abindV anilR (aeval env x)) := by
  simp only [aslot, aval1, asv, abindV]
  cases h : aeval env x with
  | none => rfl
  | some a => cases a <;> rfl
def aextR (i : Nat) (v : AV) : Option AV := match v with
  | .tuple vs => vs[i]?
  | _ => none
@[go_sem] theorem aextR_tuple {vs : List AV} : aextR i (.tuple vs) = vs[i]? := by rfl
@[go_sem] theorem o_extract : aslot c call env A (.extract x i) = asv A (abindV (aextR i) (aeval env x)) := by
  simp only [aslot, aval1, asv, abindV]
  cases h : aeval env x with
  | none => rfl
  | some a =>
    cases a <;> try rfl
    rename_i vs
    simp only [aextR, Option.bind_some]
    cases vs[i]? <;> rfl

/-- where a box is -/
def aplaceS (t : Nat) (x : Option Slot) : Option (Nat × Nat) := match x with
  | some (.box _) => some (t, 0)
  | some (.place s off) => some (s, off)
  | _ => none
@[go_sem] theorem p_tmp {t : Nat} : aplace env (.tmp t) = aplaceS t (alook env t) := by rfl
@[go_sem] theorem aplaceS_box {t : Nat} {cs : List AV} : aplaceS t (some (.box cs)) = some (t, 0) := by rfl
@[go_sem] theorem aplaceS_place {t s off : Nat} : aplaceS t (some (.place s off)) = some (s, off) := by rfl
@[go_sem] theorem aplaceS_v {t : Nat} : aplaceS t (some (.v v)) = none := by rfl
def aboxS (x : Option Slot) : Option (List AV) := match x with
  | some (.box cs) => some cs
  | _ => none
@[go_sem] theorem p_box {t : Nat} : abox env t = aboxS (alook env t) := by rfl
@[go_sem] theorem aboxS_box {cs : List AV} : aboxS (some (.box cs)) = some cs := by rfl
def apartS (off n : Nat) (agg : Bool) (x : Option (List AV)) : Option AV := x.bind fun cs => apart cs off n agg
@[go_sem] theorem apartS_some {cs : List AV} {off n : Nat} {agg : Bool} : apartS off n agg (some cs) = apart cs off n agg := by rfl
@[go_sem] theorem apart_true {cs : List AV} {off n : Nat} (h : off + n ≤ cs.length) : apart cs off n true = some (.agg ((cs.drop off).take n)) := by simp [apart, h]
@[go_sem] theorem apart_false {cs : List AV} {off n : Nat} : apart cs off n false = cs[off]? := by rfl
def aloadK (env : AEnv) (A : AHeap) (n : Nat) (agg : Bool) (x : Operand) (p : Option (Nat × Nat)) : Option AV := match p with
  | some (s, off) => apartS off n agg (abox env s)
  | none => abindV (aload A n agg) (aeval env x)
@[go_sem] theorem aloadK_some {n : Nat} {agg : Bool} {s off : Nat} : aloadK env A n agg x (some (s, off)) = apartS off n agg (abox env s) := by rfl
@[go_sem] theorem aloadK_none {n : Nat} {agg : Bool} : aloadK env A n agg x none = abindV (aload A n agg) (aeval env x) := by rfl
def aloadT (env : AEnv) (A : AHeap) (x : Operand) (k : Option (Nat × Bool)) : Option AV := match k with
  | some (n, agg) => aloadK env A n agg x (aplace env x)
  | none => none
@[go_sem] theorem aloadT_some {n : Nat} {agg : Bool} : aloadT env A x (some (n, agg)) = aloadK env A n agg x (aplace env x) := by rfl
@[go_sem] theorem o_load : aslot c call env A (.load t x) = asv A (aloadT env A x (kindT c.P t)) := by
  simp only [aslot, aloadT, aloadK, asv, apartS, abindV]
  cases kindT c.P t with
  | none => rfl
  | some k =>
    simp only
    cases aplace env x with
    | none =>
      cases aeval env x with
      | none => rfl
      | some a => simp
    | some p =>
      simp only
      cases abox env p.1 with
      | none => rfl
      | some cs => simp
def acellsAt (off n : Nat) (agg : Bool) (o : Option AObj) : Option AV := match o with
    | some (.cells cs) => apart cs off n agg
    | _ => none
@[go_sem] theorem acellsAt_some {off n : Nat} {agg : Bool} {cs : List AV} : acellsAt off n agg (some (.cells cs)) = apart cs off n agg := by rfl
@[go_sem] theorem l_ptr {id off n : Nat} {agg : Bool} : aload A n agg (.ptr id off) = acellsAt off n agg A.objs[id]? := by rfl
@[go_sem] theorem l_sptr {n : Nat} {agg : Bool} {ds : List Dat} : aload A n agg (.sptr ds) = apart (ds.map .d) 0 n agg := by rfl

def afieldK (env : AEnv) (A : AHeap) (n : Nat) (x : Operand) (off : Nat) (p : Option (Nat × Nat)) : Option (Slot × AHeap) := if n = 0 then none else match p with
  | some (s, o') => some (.place s (o' + off), A)
  | none => match aeval env x with
        | some (.ptr id o') => some (.v (.ptr id (o' + off)), A)
        | some (.sptr ds) => some (.v (.sptr (ds.drop off)), A)
        | some (.eptr tok len j o') => some (.v (.eptr tok len j (o' + off)), A)
        | _ => none
def afieldT (env : AEnv) (A : AHeap) (x : Operand) (q : Option (Nat × Nat × Bool)) : Option (Slot × AHeap) := match q with
  | some (off, n, _) => afieldK env A n x off (aplace env x)
  | none => none
@[go_sem] theorem afieldT_some {off n : Nat} {agg : Bool} : afieldT env A x (some (off, n, agg)) = afieldK env A n x off (aplace env x) := by rfl
@[go_sem] theorem afieldK_some {n s o' off : Nat} : afieldK env A (n + 1) x off (some (s, o')) = some (.place s (o' + off), A) := by simp [afieldK]
def afieldV (A : AHeap) (off : Nat) (v : Option AV) : Option (Slot × AHeap) := match v with
        | some (.ptr id o') => some (.v (.ptr id (o' + off)), A)
        | some (.sptr ds) => some (.v (.sptr (ds.drop off)), A)
        | some (.eptr tok len j o') => some (.v (.eptr tok len j (o' + off)), A)
        | _ => none
@[go_sem] theorem afieldK_none {n off : Nat} : afieldK env A (n + 1) x off none = afieldV A off (aeval env x) := by
  simp only [afieldK, afieldV, Nat.add_eq_zero_iff, Nat.one_ne_zero, and_false, if_false]
@[go_sem] theorem afieldV_ptr {id o' off : Nat} : afieldV A off (some (.ptr id o')) = some (.v (.ptr id (o' + off)), A) := by rfl
@[go_sem] theorem afieldV_sptr {off : Nat} {ds : List Dat} : afieldV A off (some (.sptr ds)) = some (.v (.sptr (ds.drop off)), A) := by rfl
@[go_sem] theorem afieldV_eptr {tok len j o' off : Nat} : afieldV A off (some (.eptr tok len j o')) = some (.v (.eptr tok len j (o' + off)), A) := by rfl
@[go_sem] theorem o_field : aslot c call env A (.fieldAddr t x i) = afieldT env A x (fieldT c.P t i) := by
  simp only [aslot, afieldT, afieldK]
  rfl

def aindexK (c : ACtx) (env : AEnv) (A : AHeap) (t : TypeId) (x : Operand) (i : Option AV) : Option (Slot × AHeap) := match i with
    | some (.d (.int _ n)) => match arrT c.P t with
      | some (len, sz, _) => match aplace env x with
        | some (s, o') => if 0 ≤ n ∧ n < len then some (.place s (o' + n.toNat * sz), A) else none
        | none => none
      | none => match elemT c.P t, aeval env x with
        | some e, some v => (aindex e.2 A n v).map fun p => (.v p, A)
        | _, _ => none
    | _ => none
@[go_sem] theorem o_indexAddr : aslot c call env A (.indexAddr t x y) = aindexK c env A t x (aeval env y) := by
  simp only [aslot, aindexK]
  rfl
def aindexR (A : AHeap) (n : Int) (e : Option (TypeId × Nat)) (v : Option AV) : Option AV := match e, v with
  | some e, some v => aindex e.2 A n v
  | _, _ => none
@[go_sem] theorem aindexR_some {n : Int} {e : TypeId} {sz : Nat} : aindexR A n (some (e, sz)) (some v) = aindex sz A n v := by rfl
@[go_sem] theorem aindexK_slice {k : IntKind} {n : Int} (h : arrT c.P t = none) : aindexK c env A t x (some (.d (.int k n))) = asv A (aindexR A n (elemT c.P t) (aeval env x)) := by
  simp only [aindexK, h, asv, aindexR]
  cases elemT c.P t <;> cases aeval env x <;> rfl
def aindexP (n : Int) (len m : Nat) (A : AHeap) (p : Option (Nat × Nat)) : Option (Slot × AHeap) := match p with
        | some (s, o') => if 0 ≤ n ∧ n < len then some (.place s (o' + n.toNat * m), A) else none
        | none => none
@[go_sem] theorem aindexP_some {n : Int} {len m s o' : Nat} : aindexP n len m A (some (s, o')) = if 0 ≤ n ∧ n < len then some (.place s (o' + n.toNat * m), A) else none := by rfl
@[go_sem] theorem aindexK_array {k : IntKind} {n : Int} {len sz : Nat} {agg : Bool} (h : arrT c.P t = some (len, sz, agg)) : aindexK c env A t x (some (.d (.int k n))) = aindexP n len sz A (aplace env x) := by
  simp only [aindexK, h, aindexP]

def acallK (call : FuncId → AFun) (A : AHeap) (g : Option AV) (args : Option (List AV)) : Option (AV × AHeap) := match g, args with
      | some (.func (.func f) first captured), some args => call f (first ++ args ++ captured) A
      | _, _ => none
def asv2 (x : Option (AV × AHeap)) : Option (Slot × AHeap) := x.map fun r => (.v r.1, r.2)
@[go_sem] theorem asv2_some : asv2 (some (v, A)) = some (.v v, A) := by rfl
@[go_sem] theorem asv2_none : asv2 none = none := by rfl
@[go_sem low] theorem asv2_ite {p : Prop} [Decidable p] {a b : Option (AV × AHeap)} : asv2 (if p then a else b) = if p then asv2 a else asv2 b := by split <;> rfl
@[go_sem] theorem acallK_some {h : FuncId} {first args captured : List AV} : acallK call A (some (.func (.func h) first captured)) (some args) = call h (first ++ args ++ captured) A := by rfl
@[go_sem] theorem o_call {g : Operand} {args : Array Operand} {ts : Array TypeId} : aslot c call env A (.call ⟨.value g, args, ts⟩) = asv2 (acallK call A (aeval env g) (aevals env args.toList)) := by
  simp only [aslot, aval1, asv2, acallK]; rfl
def abuiltK (P : Program) (b : Builtin) (ts : Array TypeId) (A : AHeap) (args : Option (List AV)) : Option (AV × AHeap) := args.bind fun args => abuiltin P b ts args A
@[go_sem] theorem abuiltK_some {P : Program} {b : Builtin} {ts : Array TypeId} {args : List AV} : abuiltK P b ts A (some args) = abuiltin P b ts args A := by rfl
@[go_sem] theorem o_built {b : Builtin} {args : Array Operand} {ts : Array TypeId} : aslot c call env A (.call ⟨.builtin b, args, ts⟩) = asv2 (abuiltK c.P b ts A (aevals env args.toList)) := by
  simp only [aslot, aval1, asv2, abuiltK]
def aevalsC (v : Option AV) (vs : Option (List AV)) : Option (List AV) := v.bind fun a => vs.map (a :: ·)
@[go_sem] theorem aevalsC_some {vs : List AV} : aevalsC (some v) (some vs) = some (v :: vs) := by rfl
@[go_sem] theorem aevals_nil : aevals env [] = some [] := by rfl
@[go_sem] theorem aevals_cons {xs : List Operand} : aevals env (x :: xs) = aevalsC (aeval env x) (aevals env xs) := by rfl
end ops

/-! ### operands -/
def aslotV (x : Option Slot) : Option AV := match x with
  | some (.v x) => some x
  | _ => none
@[go_sem] theorem aslotV_some {x : AV} : aslotV (some (.v x)) = some x := by rfl
@[go_sem] theorem e_tmp {t : Nat} : aeval env (.tmp t) = aslotV (alook env t) := by rfl
@[go_sem] theorem e_bool {b : Bool} : aeval env (.const (.bool b)) = some (.d (.bool b)) := by rfl
@[go_sem] theorem e_int {k : IntKind} {n : Int} : aeval env (.const (.int k n)) = some (.d (.int k n)) := by rfl
@[go_sem] theorem e_str {s : Array UInt8} : aeval env (.const (.string ⟨s⟩)) = some (.d (.str s.toList)) := by rfl
@[go_sem] theorem e_nilS : aeval env (.const (.slice none 0 0)) = some .nilS := by rfl
@[go_sem] theorem e_nilP : aeval env (.const (.pointer none)) = some .nilP := by rfl
@[go_sem] theorem e_nilF : aeval env (.const .nilFunc) = some .nilF := by rfl
@[go_sem] theorem e_func {h : FuncId} : aeval env (.func h) = some (.func (.func h) [] []) := by rfl
@[go_sem] theorem e_agg {cs : Array Value} : aeval env (.const (.agg cs)) = (vcells cs.toList).map .agg := by rfl
attribute [go_sem] eq_self decide_true decide_false vcells vcell Option.map_some Option.bind_some Option.map_none Option.bind_none List.toList_toArray Bool.not_eq_true Bool.not_eq_false Bool.decide_eq_true if_true if_false reduceIte Bool.false_eq_true

@[go_sem] theorem beq_true' (x : Bool) : (x == true) = x := by cases x <;> rfl
@[go_sem] theorem beq_false' (x : Bool) : (x == false) = !x := by cases x <;> rfl
@[go_sem ↓] theorem ite_nb {α : Type} {b : Bool} {x y : α} : (if (!b) = true then x else y) = if b = true then y else x := by cases b <;> rfl
@[go_sem] theorem ite_or' {p : Prop} [Decidable p] {x : Bool} : (if p then true else x) = (decide p || x) := by by_cases h : p <;> simp [h]
@[go_sem] theorem ite_and' {p : Prop} [Decidable p] {x : Bool} : (if p then x else false) = (decide p && x) := by by_cases h : p <;> simp [h]

/-! ### binary operations -/
section bin
variable {P : Program} {t : TypeId} {k : IntKind} {a b : Int}
@[go_sem] theorem b_lss : abin P .lss t (.d (.int k a)) (.d (.int k b)) = some (.d (.bool (decide (a < b)))) := by simp [abin, aarith, acmp]
@[go_sem] theorem b_leq : abin P .leq t (.d (.int k a)) (.d (.int k b)) = some (.d (.bool (decide (a ≤ b)))) := by simp [abin, aarith, acmp]
@[go_sem] theorem b_gtr : abin P .gtr t (.d (.int k a)) (.d (.int k b)) = some (.d (.bool (decide (b < a)))) := by simp [abin, aarith, acmp]
@[go_sem] theorem b_geq : abin P .geq t (.d (.int k a)) (.d (.int k b)) = some (.d (.bool (decide (b ≤ a)))) := by simp [abin, aarith, acmp]
@[go_sem] theorem b_eql : abin P .eql t (.d (.int k a)) (.d (.int k b)) = some (.d (.bool (decide (a = b)))) := by simp [abin, aarith, acmp]; rfl
@[go_sem] theorem b_neq : abin P .neq t (.d (.int k a)) (.d (.int k b)) = some (.d (.bool (!decide (a = b)))) := by
  by_cases h : a = b <;> simp [abin, aarith, acmp, h]
end bin
/-! ### calls -/
@[go_sem] theorem aresults_one {r : ResultVar} : aresults c env A [r] = aresult c env A r := by
  unfold aresults aresultL aresultL
  cases aresult c env A r <;> rfl
@[go_sem] theorem aresult_tmp {t : Nat} : aresult c env A (.tmp t) = aslotV (alook env t) := by rfl
theorem acut_same {v : AV} (h : v.noptr = true) : acut A v A = (v, A) := by
  unfold acut
  rw [List.take_length, if_pos rfl, if_pos h, List.take_length]
theorem afinR_d {x : Dat} (h : c.own f = false) : afinR c f A A (some (.d x)) = some (.d x, A) := by
  simp only [afinR, Option.map_some, afinish, h, Bool.false_eq_true, if_false, acleanR, acleanV, aclean]
  rw [acut_same rfl]

theorem k_call {fn : Func} {code : Code} {args : List AV} (hg : c.ext f = none) (hf : c.P.funcs[f]? = some fn) (hb : fn.body = some code) (hk : fnOk c.P f = true) (ho : c.own f = false) (hnt : fn.ntmps = nt) {ra : Array ResultVar} (hrs : fn.results = ra)
    (hn : args.length ≤ nt) : acl c f args A = cek ⟨c, f, nt, ra.toList, A⟩ [] code (aenter 0 (acleanVs A args).1) (acleanVs A args).2 := by
  subst hnt; subst hrs
  rw [acl_eq hg hf hb hk hn]
  simp only [ho, Bool.false_eq_true, if_false]
  unfold cek afinK afinR aplug
  congr 1
@[go_sem] theorem ckr_one {r : ResultVar} : ckr ⟨c, f, nt, [r], A0⟩ env A = afinR c f A0 A (aresult c env A r) := by
  unfold ckr
  rw [aresults_one]

attribute [go_sem] aenter acleanVs acleanV aclean acleans
end
end Go.Abs
